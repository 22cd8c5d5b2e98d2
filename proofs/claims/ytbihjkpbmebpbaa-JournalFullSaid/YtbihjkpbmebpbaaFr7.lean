/- refuterlaw07.JournalFrames: it returns true. -/
import Derived.Test.YtbihjkpbmebpbaaLives7
namespace Go.Proofs.Ytbihjkpbmebpbaa.Fr7
open Go.RowKit Go.Proofs Go.Proofs.Ytbihjkpbmebpbaa.Ma Go.Proofs.Ytbihjkpbmebpbaa.Wire Go.Proofs.Ytbihjkpbmebpbaa.Rdr Go.Proofs.Ytbihjkpbmebpbaa.Scan Go.Proofs.Ytbihjkpbmebpbaa.Ref01 Go.Proofs.Ytbihjkpbmebpbaa.Ref02 Go.Proofs.Ytbihjkpbmebpbaa.Ref07 Go.Proofs.Ytbihjkpbmebpbaa.Lives7 Go.Proofs.YtbihjkpbmebpbaaW.PrintWords Go.Proofs.YtbihjkpbmebpbaaW.PrintLast

theorem scanR_len : ∀ (f k p : Nat) (b : List Int), (scanR f k p b).length ≤ f := by
  intro f
  induction f with
  | zero => intro k p b; exact Nat.le_refl _
  | succ f ih =>
    intro k p b
    rw [scanR]
    split
    · split
      · rw [List.length_cons]; have := ih (k + 1) (p + (frameL k (recL (b.drop p))).length) b; omega
      · simp
    · simp
theorem scanR_mem : ∀ (f k p : Nat) (b : List Int) (r : List Int × Int), r ∈ scanR f k p b → r.1.length ≤ b.length := by
  intro f
  induction f with
  | zero => intro k p b r h; cases h
  | succ f ih =>
    intro k p b r h
    rw [scanR] at h
    split at h
    · split at h
      · rcases List.mem_cons.1 h with rfl | h
        · have := recL_len (b.drop p); rw [List.length_drop] at this; simp only; omega
        · exact ih _ _ _ _ h
      · cases h
    · cases h
theorem scanR_ge : ∀ (f k p : Nat) (b : List Int), (p : Int) ≤ ((scanR f k p b).getLast?.map Prod.snd).getD (p : Int) := by
  intro f
  induction f with
  | zero => intro k p b; exact Int.le_refl _
  | succ f ih =>
    intro k p b
    rw [scanR]
    split
    · split
      · have h := ih (k + 1) (p + (frameL k (recL (b.drop p))).length) b
        generalize scanR f (k + 1) (p + (frameL k (recL (b.drop p))).length) b = l at h
        cases l with
        | nil => simp; omega
        | cons a l =>
          rw [List.getLast?_cons]
          simp only [Option.map_some, Option.getD_some]
          rw [List.getLast?_cons] at h ⊢
          simp only [Option.map_some, Option.getD_some] at h ⊢
          omega
      · simp
    · simp
theorem framesL_len : ∀ (xs : List (List Int)) (k : Nat), (∀ x ∈ xs, x.length ≤ 200) → k + xs.length ≤ 1000 → xs.length ≤ (framesL k xs).length ∧ (framesL k xs).length ≤ 240 * xs.length := by
  intro xs
  induction xs with
  | nil => intro k _ _; exact ⟨Nat.le_refl _, Nat.le_refl _⟩
  | cons x xs ih =>
    intro k h hk
    rw [List.length_cons] at hk
    have h1 := ih (k + 1) (fun y hy => h y (by simp [hy])) (by omega)
    have h2 := h x (by simp)
    have h3 := frameL_length k (by omega) x (by omega)
    have h4 := frameL_pos k x
    rw [framesL_cons, List.length_append, List.length_cons]
    omega
theorem framesL_byte : ∀ (xs : List (List Int)) (k : Nat), (∀ x ∈ xs, ∀ y ∈ x, 0 ≤ y ∧ y ≤ 255) → ∀ y ∈ framesL k xs, 0 ≤ y ∧ y ≤ 255 := by
  intro xs
  induction xs with
  | nil => intro k _ y hy; cases hy
  | cons x xs ih =>
    intro k h
    rw [framesL_cons]
    exact bytes_append (frameL_byte k x (h x (by simp))) (ih (k + 1) (fun z hz => h z (by simp [hz])))

/-- What Scan makes of a list of frames followed by any bytes. -/
theorem frames_scan (xs : List (List Int)) (r : List Int) (hx : ∀ x ∈ xs, x.length ≤ 200) (hk : xs.length ≤ 1000) (hr : r.length ≤ 1000) :
    ∃ more, (scanR ((framesL 0 xs ++ r).length + 1) 0 0 (framesL 0 xs ++ r)).map Prod.fst = xs ++ more ∧ ((framesL 0 xs).length : Int) ≤ endL (scanR ((framesL 0 xs ++ r).length + 1) 0 0 (framesL 0 xs ++ r)) := by
  obtain ⟨hl1, hl2⟩ := framesL_len xs 0 hx (by omega)
  have hb : (framesL 0 xs ++ r).length < 9223372036854775808 := by rw [List.length_append]; omega
  obtain ⟨pre, h1, h2, h3⟩ := scanR_frames xs ((framesL 0 xs ++ r).length + 1) 0 0 (framesL 0 xs ++ r) (by rw [List.drop_zero, Nat.zero_add, List.drop_left]) hb (by omega) (by rw [List.length_append]; omega) (Nat.zero_le _)
  have hg := scanR_ge ((framesL 0 xs ++ r).length + 1 - xs.length) (0 + xs.length) (0 + (framesL 0 xs).length) (framesL 0 xs ++ r)
  rw [h1]
  generalize scanR ((framesL 0 xs ++ r).length + 1 - xs.length) (0 + xs.length) (0 + (framesL 0 xs).length) (framesL 0 xs ++ r) = more at hg ⊢
  refine ⟨more.map Prod.fst, by rw [List.map_append, h2], ?_⟩
  rw [Nat.zero_add] at hg h3
  unfold endL
  rw [List.getLast?_append]
  cases hm : more.getLast? with
  | none =>
    rw [Option.none_or]
    have h3' : (pre.getLast?.map Prod.snd).getD 0 = ((framesL 0 xs).length : Int) := h3
    rw [h3']
    exact Int.le_refl _
  | some a =>
    rw [hm] at hg
    exact hg

theorem cut_rows (A : Option Addr) (n c m : Nat) (h2 : m ≤ c) : ∀ W : World, (Instr.slice 27 (.slice A n c) none (some (.int .i64 m)) none).run Try.prog W = .ok (.slice A m c) W := by
  intro W
  obtain ⟨i0, hi, hz0, hz1, hz2⟩ := info_parts infoRow
  have hel : Try.prog.elem 27 = 23 := by simp [Program.elem, Try.underlying27]
  have hu : Try.prog.underlying 27 = some (.slice (Try.prog.elem 27)) := by rw [hel]; exact Try.underlying27
  have ha : (A.map fun x => x.add 0) = A := by cases A <;> simp [Addr.add]
  rw [run_slice_h W 27 A n c hu .i64 (m : Int) (by omega) (by omega), hel]
  simp [sizeOf, typeInfo, hi, hz1, sliced, Result.andThen, ha]

theorem kf_reads {wB w : World} {A : Option Addr} {n : Nat} {xs : List (List Int)} (hb : Below wB.heap.size wB w) (h : (KF wB).C w A n xs) : KL.C w A n xs := Kd.C_read (d := KL) (dm := KF wB) rfl (fun _ _ hk => KL.K_below hb hk) h

theorem rscan_calls_n (A : Option Addr) (cap n : Nat) (b : List Int) (hn : b.length = n) (hb255 : ∀ x ∈ b, 0 ≤ x ∧ x ≤ 255) (hlen : b.length ≤ 1099511627776) (hcap : b.length ≤ cap) (w : World) (hC : Kd.C (Kd.int .u8) w A b.length b) :
    Calls Try.prog 13 #[.slice A n cap] w fun e w' => ∃ v, e = .returned (.tuple #[v, .int .i64 (endL (scanR (b.length + 1) 0 0 b))]) ∧ (KF w).R 23 w' w.heap.size (fun _ => True) v ((scanR (b.length + 1) 0 0 b).map Prod.fst) ∧ Below w.heap.size w w' := by
  subst hn
  exact rscan_calls A cap b hb255 hlen hcap w hC

set_option maxRecDepth 100000 in
set_option maxHeartbeats 1000000 in
theorem frames_calls (A0 A2 A3 : Option Addr) (c0 c2 c3 : Nat) (l b rest : List Int) (number : Int) (w : World)
    (h0 : Kd.C (Kd.int .i64) w A0 l.length l) (hl : ∀ x ∈ l, -9223372036854775808 ≤ x ∧ x ≤ 9223372036854775807) (hn : -9223372036854775808 ≤ number ∧ number ≤ 9223372036854775807)
    (h2 : Kd.C (Kd.int .u8) w A2 b.length b) (hb : ∀ x ∈ b, 0 ≤ x ∧ x ≤ 255) (hc2 : b.length ≤ c2)
    (h3 : Kd.C (Kd.int .u8) w A3 rest.length rest) (hr : ∀ x ∈ rest, 0 ≤ x ∧ x ≤ 255) (hc3 : rest.length ≤ c3) :
    Calls Try.prog 3 #[.slice A0 l.length c0, .int .i64 number, .slice A2 b.length c2, .slice A3 rest.length c3] w fun e w' => e = .returned (.bool true) ∧ Below w.heap.size w w' := by
  have HL := Lib.hid hl
  have H0 := Lib.hid h0
  have H3 := Lib.hid h3
  have HFEW := Lib.hid (few_calls A2 c2 b 200 (by omega) hc2 w h2)
  have HFEW3 := Lib.hid (fun (W : World) (h : Below w.heap.size w W) => few_calls A3 c3 rest 30 (by omega) hc3 W (Kd.C_below h3 h))
  have hob : ∀ x ∈ b.take 200, 0 ≤ x ∧ x ≤ 255 := fun x hx => hb x (List.mem_of_mem_take hx)
  have hrb : ∀ x ∈ rest.take 30, 0 ≤ x ∧ x ≤ 255 := fun x hx => hr x (List.mem_of_mem_take hx)
  have hol : (b.take 200).length ≤ 200 := by rw [List.length_take]; omega
  have hrl : (rest.take 30).length ≤ 30 := by rw [List.length_take]; omega
  generalize b.take 200 = own at HFEW hob hol
  generalize rest.take 30 = rs at HFEW3 hrb hrl
  have HOB := Lib.hid hob
  have HRB := Lib.hid hrb
  clear hl h0 h3 h2 hb hr hob hrb
  go_enter Try.func3, Try.ntmps3
  go_wp2_with fail
  refine HFEW.out.mono ?_
  rintro e w1 ⟨v1, rfl, hR1, hB1⟩
  obtain ⟨A1, c1, rfl, hc1, hC1⟩ := Kd.R_reads hR1
  have HR1 := Lib.hid hR1
  have HC1 := Lib.hid hC1
  clear hR1 hC1
  go_wp2_with fail
  refine (Frame.frame_calls number hn A1 c1 own HOB.out (by omega) w1 HC1.out).mono ?_
  rintro e w2 ⟨v2, rfl, hR2, hB2⟩
  obtain ⟨Af, cf, rfl, hcf, hCf⟩ := Kd.R_reads hR2
  have HCf := Lib.hid hCf
  clear hCf hR2
  go_wp2_with fail
  refine (Ref07.frame_calls number hn A1 c1 own HOB.out (by omega) w2 (Kd.C_below HC1.out hB2)).mono ?_
  rintro e w3 ⟨v3, rfl, hR3, hB3⟩
  obtain ⟨Ag, cg, rfl, hcg, hCg⟩ := Kd.R_reads hR3
  have HCg := Lib.hid hCg
  clear hCg hR3
  have hfl := frameL_length number hn own (by omega)
  have HSB := Lib.hid (sameBytes_calls Af Ag cf cg (frameL number own) (frameL number own) (by omega) w3 (Kd.C_below HCf.out hB3) HCg.out)
  rw [decide_eq_true rfl] at HSB
  go_wp2_with fail
  refine HSB.out.mono ?_
  rintro e w4 ⟨rfl, m, rfl⟩
  have hB4 : Below w.heap.size w w3 := (hB1.trans (hB2.mono hB1.size)).trans (hB3.mono (Nat.le_trans hB1.size hB2.size))
  have hB5 := pw_below_drewN hB4 m
  have HR5 := Lib.hid (Kd.R_below (Kd.R_below (Kd.R_below HR1.out hB2) hB3) (below_of_drawn m))
  clear HR1 HC1 HCf HCg HSB hB1 hB2 hB3 hB4
  generalize w3.drewN m = w5 at hB5 HR5 ⊢
  go_wp2_with fail
  refine (records_calls A0 c0 l w5 (Kd.C_below H0.out hB5) HL.out).mono ?_
  rintro e w6 ⟨v6, xs, rfl, hR6, hxl, hxs, hB6⟩
  have hB7 : Below w.heap.size w w6 := hB5.trans (hB6.mono hB5.size)
  have hRo := Kd.R_below HR5.out hB6
  have hRL := Kd.R_lower hR6 hB5.size
  have hRa := Kd.R_apartR hRo hRL (by decide)
  have HRL := Lib.hid hRL
  have HRA := Lib.hid hRa
  have hxl6 : xs.length ≤ 6 := by omega
  have hxx : (xs ++ [own]).length = xs.length + 1 := by simp
  have hsm : ∀ x ∈ xs ++ [own], x.length ≤ 200 ∧ ∀ y ∈ x, 0 ≤ y ∧ y ≤ 255 := by
    intro x hx
    rcases List.mem_append.1 hx with hx | hx
    · have := hxs x hx; exact ⟨by omega, this.2⟩
    · rw [List.mem_singleton.1 hx]; exact ⟨hol, HOB.out⟩
  have HSM := Lib.hid hsm
  clear hR6 hRo hRL hRa hxl hxs hsm
  go_wp2_with (at_builtin; refine Kd.R_append KL (w0 := w) w.heap.size rfl (.tmp 29) (.tmp 31) 27 23 (.slice none 0 0) 24 rfl Try.underlying27 infoRow rfl Nat.one_pos (by decide) v6 xs own [.slice A1 own.length c1] (fun _ => True) (fun k => True ∧ some k ≠ v6.ownBlock) rfl rfl ⟨_, rfl, HRA.out⟩ (fun _ h => h) (fun _ _ => trivial) HRL.out hB7 hB7.size (by omega) ?_; intro v7 w7 ho7 hb7 hg7 _)
  obtain ⟨Ax, cx, rfl, hcx, hCx⟩ := Kd.R_reads ho7
  clear ho7 hg7 HRL HRA hB7 hB6
  generalize xs ++ [own] = X at hCx hcx hxx HSM ⊢
  have HCX := Lib.hid hCx
  have hX : X.length ≤ 7 := by omega
  clear hCx hxx
  have hsz7 := hb7.size
  have HFL := Lib.hid (fun k => framesL_len (X.take k) 0 (fun x hx => (HSM.out x (List.mem_of_mem_take hx)).1) (by rw [List.length_take]; omega))
  go_loopw [11, 12] (fun v i wr => ∃ k : Nat, i = .int .i64 k ∧ k ≤ X.length ∧ Hid (Kd.R (Kd.int .u8) 5 wr w7.heap.size (fun _ => True) v (framesL 0 (X.take k))) ∧ Below w7.heap.size w7 wr) (fun _ i _ => X.length - (intOf i).toNat)
  case atStart => exact ⟨0, rfl, Nat.zero_le _, Lib.hid (Kd.R_nil _ _ _ _ _), Below.refl _ _⟩
  case round =>
    obtain ⟨k, rfl, hk, hR, hB⟩ := hrel
    by_cases hlt : k < X.length
    · obtain ⟨ad, Ay, cy, e1, hcell, hyc, hCy⟩ := kl_at (Kd.C_below HCX.out hB) k hlt hlt
      subst e1
      have hy := HSM.out X[k] (List.getElem_mem hlt)
      have hsn : framesL 0 (X.take (k + 1)) = framesL 0 (X.take k) ++ frameL (k : Int) X[k] := by
        rw [List.take_succ_eq_append_getElem hlt, framesL_snoc, Nat.zero_add, List.length_take, Nat.min_eq_left (by omega)]
      have HSN := Lib.hid hsn
      have hfl1 := (HFL.out k).2
      rw [List.length_take, Nat.min_eq_left (by omega)] at hfl1
      generalize X[k] = y at hcell hyc hCy hy HSN
      obtain ⟨hy1, hy2⟩ := hy
      have hfy := frameL_length (k : Int) (by omega) y (by omega)
      have HF := Lib.hid (Frame.frame_calls (k : Int) (by omega) Ay cy y hy2 (by omega) wr hCy)
      generalize frameL (k : Int) y = fr at HSN hfy HF
      generalize framesL 0 (X.take k) = acc at hR HSN hfl1
      clear hCy hsn
      have hk0 : (0 : Int) ≤ (k : Int) := by omega
      have hka : (k : Int) < (X.length : Int) := by omega
      go_wp2_with (first
        | (go_at_call 9; refine HF.out.mono ?_; rintro e w8 ⟨v8, rfl, hR8, hB8⟩; obtain ⟨Af, cf, rfl, hcf8, hCf8⟩ := Kd.R_reads hR8; have HCF8 := Lib.hid hCf8; have HR8 := Lib.hid (Kd.R_below hR.out hB8); have hB9 : Below w7.heap.size w7 w8 := hB.trans (hB8.mono hB.size); clear hCf8 hR8)
        | (at_builtin; refine Kd.R_append_rows (Kd.int .u8) (Rr := (Kd.int .u8).K w8) (w0 := w7) w7.heap.size rfl (.tmp 39) (.tmp 45) 23 5 (.int .u8 0) 1 rfl Try.underlying23 info8 rfl (by decide) (by decide) u11 acc fr Af fr.length cf (fun _ => True) (fun _ => False) rfl rfl HR8.out HCF8.out (fun _ _ h => h) (fun _ h => h.elim) (fun _ _ => trivial) hB9 hB9.size (by omega) ?_; intro v9 w9 ho9 hb9 hg9 _))
      go_roundw
      case rel => exact ⟨k + 1, (by first | rfl | simp), by omega, Lib.hid (by rw [HSN.out]; exact ho9), hb9⟩
      case measure => simp [intOf]; omega
    · obtain rfl : k = X.length := by omega
      rw [List.take_length] at hR
      have hfl1 := HFL.out X.length
      rw [List.take_length] at hfl1
      obtain ⟨Aa, ca, rfl, hca, _⟩ := Kd.R_reads hR.out
      obtain ⟨more, hs1, hs2⟩ := frames_scan X rs (fun x hx => (HSM.out x hx).1) (by omega) (by omega)
      have hfb := framesL_byte X 0 (fun x hx => (HSM.out x hx).2)
      have hfb2 := bytes_append hfb HRB.out
      generalize framesL 0 X = F at hR hfl1 hs1 hs2 hfb2 hca ⊢
      have hT : (F ++ rs).length = F.length + rs.length := List.length_append
      have hgl := scanR_len ((F ++ rs).length + 1) 0 0 (F ++ rs)
      have hgm : ∀ x ∈ (scanR ((F ++ rs).length + 1) 0 0 (F ++ rs)).map Prod.fst, x.length ≤ 140737488355328 := by
        intro x hx
        obtain ⟨r, hr, rfl⟩ := List.mem_map.1 hx
        have := scanR_mem _ _ _ _ r hr
        omega
      have hgl2 : ((scanR ((F ++ rs).length + 1) 0 0 (F ++ rs)).map Prod.fst).length ≤ F.length + rs.length + 1 := by rw [List.length_map]; omega
      have HSC := Lib.hid (fun (A : Option Addr) (c : Nat) (W : World) (hc : F.length + rs.length ≤ c) (h : Kd.C (Kd.int .u8) W A (F ++ rs).length (F ++ rs)) => scan_calls_n A c (F.length + rs.length) (F ++ rs) hT hfb2 (by omega) (by omega) W h)
      have HRS := Lib.hid (fun (A : Option Addr) (c : Nat) (W : World) (hc : F.length + rs.length ≤ c) (h : Kd.C (Kd.int .u8) W A (F ++ rs).length (F ++ rs)) => rscan_calls_n A c (F.length + rs.length) (F ++ rs) hT hfb2 (by omega) (by omega) W h)
      generalize endL (scanR ((F ++ rs).length + 1) 0 0 (F ++ rs)) = E at hs2 HSC HRS
      generalize (scanR ((F ++ rs).length + 1) 0 0 (F ++ rs)).map Prod.fst = G at hs1 hgm hgl2 HSC HRS
      have HFB := Lib.hid hfb2
      have HGM := Lib.hid hgm
      have HS1 := Lib.hid hs1
      have hGX : X.length ≤ G.length := by rw [hs1, List.length_append]; omega
      have hE : ((E : Int) == E) = true := by simp
      clear hfb hfb2 hgl hgm hs1
      have hB8 : Below w.heap.size w wr := hb7.trans (hB.mono hsz7)
      go_wp2_with fail
      refine (HFEW3.out wr hB8).mono ?_
      rintro e w8 ⟨v8, rfl, hR8, hB9⟩
      obtain ⟨Ar, cr, rfl, _, hCr⟩ := Kd.R_reads hR8
      have HCR := Lib.hid hCr
      have HRA := Lib.hid (Kd.R_below hR.out hB9)
      have hB10 : Below w7.heap.size w7 w8 := hB.trans (hB9.mono hB.size)
      clear hR8 hCr
      go_wp2_with (first
        | (at_builtin; refine Kd.R_append_rows (Kd.int .u8) (Rr := (Kd.int .u8).K w8) (w0 := w7) w7.heap.size rfl (.tmp 49) (.tmp 51) 23 5 (.int .u8 0) 1 rfl Try.underlying23 info8 rfl (by decide) (by decide) (.slice Aa F.length ca) F rs Ar rs.length cr (fun _ => True) (fun _ => False) rfl rfl HRA.out HCR.out (fun _ _ h => h) (fun _ h => h.elim) (fun _ _ => trivial) hB10 hB10.size (by omega) ?_; intro v9 w9 ho9 hb9 hg9 _; obtain ⟨A9, c9, rfl, hc9, hC9⟩ := Kd.R_reads ho9; have HC9 := Lib.hid hC9; clear ho9 hg9 hC9))
      refine (HSC.out A9 c9 w9 (by omega) HC9.out).mono ?_
      rintro e w10 ⟨v10, rfl, hR10, hB11⟩
      obtain ⟨Ag, cg, rfl, hcg', hCg⟩ := Kd.R_reads hR10
      have HCG := Lib.hid hCg
      clear hCg hR10
      have hB12 : Below w7.heap.size w7 w10 := hb9.trans (hB11.mono hb9.size)
      go_wp2_with fail
      refine (HRS.out A9 c9 w10 (by omega) (Kd.C_below HC9.out hB11)).mono ?_
      rintro e w11 ⟨v11, rfl, hR11, hB13⟩
      obtain ⟨Ah, ch, rfl, hch', hCh⟩ := Kd.R_reads hR11
      have HCH := Lib.hid (kf_reads hB13 hCh)
      have HCG2 := Lib.hid (Kd.C_below HCG.out hB13)
      clear hCh hR11 HCG
      have hB14 : Below w7.heap.size w7 w11 := hB12.trans (hB13.mono hB12.size)
      have hcutr := cut_rows Ag G.length cg X.length (by omega)
      have HSL := Lib.hid (sameLists_calls Ag Ah cg ch G G (by omega) HGM.out w11 HCG2.out HCH.out)
      rw [decide_eq_true rfl] at HSL
      have htk : G.take X.length = X := by rw [HS1.out, List.take_left]
      have hCt := Kd.C_take HCG2.out (m := X.length) hGX
      rw [htk] at hCt
      have HCT := Lib.hid hCt
      clear hCt htk
      go_wp2_with fail
      refine HSL.out.mono ?_
      rintro e w12 ⟨rfl, hB15⟩
      have hB16 : Below w7.heap.size w7 w12 := hB14.trans (hB15.mono hB14.size)
      have HSL2 := Lib.hid (sameLists_calls Ag Ax cg cx X X (by omega) (fun x hx => by have := (HSM.out x hx).1; omega) w12 (Kd.C_below HCT.out hB15) (Kd.C_below HCX.out hB16))
      rw [decide_eq_true rfl] at HSL2
      go_wp2_with fail
      refine HSL2.out.mono ?_
      rintro e w13 ⟨rfl, hB17⟩
      have hB18 : Below w7.heap.size w7 w13 := hB16.trans (hB17.mono hB16.size)
      go_wp2_with fail
      refine (lives_calls w13).mono ?_
      rintro e w14 ⟨rfl, hB19⟩
      have hB20 : Below w7.heap.size w7 w14 := hB18.trans (hB19.mono hB18.size)
      go_wp2
      go_ret
      exact ⟨rfl, hb7.trans (hB20.mono hsz7)⟩

/-- The same, as the row asks for it. -/
theorem frames_law (w : World) (A0 : Option Addr) (c0 : Nat) (l : List Int) (h0 : Kd.C (Kd.int .i64) w A0 l.length l) (hl : ∀ x ∈ l, -9223372036854775808 ≤ x ∧ x ≤ 9223372036854775807) (_ : l.length ≤ 140737488351232) (_ : l.length ≤ c0)
    (number : Int) (hn : -9223372036854775808 ≤ number ∧ number ≤ 9223372036854775807)
    (A2 : Option Addr) (c2 : Nat) (b : List Int) (h2 : Kd.C (Kd.int .u8) w A2 b.length b) (hb : ∀ x ∈ b, 0 ≤ x ∧ x ≤ 255) (_ : b.length ≤ 140737488351232) (hc2 : b.length ≤ c2)
    (A3 : Option Addr) (c3 : Nat) (rest : List Int) (h3 : Kd.C (Kd.int .u8) w A3 rest.length rest) (hr : ∀ x ∈ rest, 0 ≤ x ∧ x ≤ 255) (_ : rest.length ≤ 140737488351232) (hc3 : rest.length ≤ c3) :
    Calls Try.prog 3 #[.slice A0 l.length c0, .int .i64 number, .slice A2 b.length c2, .slice A3 rest.length c3] w fun e w' => e = .returned (.bool true) ∧ Below w.heap.size w w' :=
  frames_calls A0 A2 A3 c0 c2 c3 l b rest number w h0 hl hn h2 hb hc2 h3 hr hc3

end Go.Proofs.Ytbihjkpbmebpbaa.Fr7
