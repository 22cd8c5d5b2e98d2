/- refuterlaw07.JournalScans: it returns true. -/
import Derived.Deep.RegionWith
import Derived.Test.YtbihjkpbmebpbaaFr7
namespace Go.Proofs.Ytbihjkpbmebpbaa.Sc7
open Go.RowKit Go.Proofs Go.Proofs.Ytbihjkpbmebpbaa.Ma Go.Proofs.Ytbihjkpbmebpbaa.Wire Go.Proofs.Ytbihjkpbmebpbaa.Rdr Go.Proofs.Ytbihjkpbmebpbaa.Scan Go.Proofs.Ytbihjkpbmebpbaa.Ref01 Go.Proofs.Ytbihjkpbmebpbaa.Ref02 Go.Proofs.Ytbihjkpbmebpbaa.Ref07 Go.Proofs.Ytbihjkpbmebpbaa.Lives7 Go.Proofs.Ytbihjkpbmebpbaa.Fr7 Go.Proofs.YtbihjkpbmebpbaaW.PrintWords Go.Proofs.YtbihjkpbmebpbaaW.PrintLast

attribute [local go_sem] Go.Proofs.YtbihjkpbmebpbaaW.PrintMore.min2_int Go.Proofs.YtbihjkpbmebpbaaW.PrintMore.min_two

theorem set_byte {l : List Int} {i : Nat} {c : Int} (h : ∀ x ∈ l, 0 ≤ x ∧ x ≤ 255) (hc : 0 ≤ c ∧ c ≤ 255) : ∀ x ∈ l.set i c, 0 ≤ x ∧ x ≤ 255 := by
  intro x hx
  rcases List.mem_or_eq_of_mem_set hx with hx | rfl
  · exact h x hx
  · exact hc

theorem rframe_calls_n (n : Int) (hn : -9223372036854775808 ≤ n ∧ n ≤ 9223372036854775807) (A : Option Addr) (cap m : Nat) (b : List Int) (hm : b.length = m) (hb255 : ∀ x ∈ b, 0 ≤ x ∧ x ≤ 255) (hl : b.length ≤ 70368744177000) (w : World) (hC : Kd.C (Kd.int .u8) w A b.length b) :
    Calls Try.prog 10 #[.int .i64 n, .slice A m cap] w fun e w' => ∃ v, e = .returned v ∧ Kd.R (Kd.int .u8) 5 w' w.heap.size (fun _ => True) v (frameL n b) ∧ Below w.heap.size w w' := by
  subst hm
  exact Ref07.frame_calls n hn A cap b hb255 hl w hC

/-- A literal of three rows. -/
theorem lit3 (w : World) (A1 A2 A3 : Option Addr) (c1 c2 c3 : Nat) (x1 x2 x3 : List Int) (h1 : x1.length ≤ c1) (h2 : x2.length ≤ c2) (h3 : x3.length ≤ c3)
    (k1 : Kd.C (Kd.int .u8) w A1 x1.length x1) (k2 : Kd.C (Kd.int .u8) w A2 x2.length x2) (k3 : Kd.C (Kd.int .u8) w A3 x3.length x3) :
    KL.C (w.alloc (.cells #[.slice A1 x1.length c1, .slice A2 x2.length c2, .slice A3 x3.length c3] 23)) (some ⟨w.heap.size, 0, none⟩) 3 [x1, x2, x3] := by
  refine ⟨rfl, by decide, fun _ => ⟨_, rfl, fun j p hj => ?_⟩⟩
  have hcell : ∀ (j : Nat) (u : Value), (#[.slice A1 x1.length c1, .slice A2 x2.length c2, .slice A3 x3.length c3] : Array Value)[j]? = some u → (w.alloc (.cells #[.slice A1 x1.length c1, .slice A2 x2.length c2, .slice A3 x3.length c3] 23)).cell? ⟨w.heap.size, j, none⟩ = some u := by
    intro j u hu
    simp only [World.cell?, heap_alloc_new]
    exact hu
  match j, hj with
  | 0, hj =>
    obtain rfl : x1 = p := by simpa using hj
    refine ⟨[.slice A1 x1.length c1], rfl, ⟨_, _, rfl, h1, Kd.C_alloc k1 _⟩, fun i u hi => ?_⟩
    match i, hi with
    | 0, hi => exact hcell 0 u (by simpa using hi)
  | 1, hj =>
    obtain rfl : x2 = p := by simpa using hj
    refine ⟨[.slice A2 x2.length c2], rfl, ⟨_, _, rfl, h2, Kd.C_alloc k2 _⟩, fun i u hi => ?_⟩
    match i, hi with
    | 0, hi => exact hcell 1 u (by simpa using hi)
  | 2, hj =>
    obtain rfl : x3 = p := by simpa using hj
    refine ⟨[.slice A3 x3.length c3], rfl, ⟨_, _, rfl, h3, Kd.C_alloc k3 _⟩, fun i u hi => ?_⟩
    match i, hi with
    | 0, hi => exact hcell 2 u (by simpa using hi)

theorem row_block {w : World} {base e size n c : Nat} {A : Option Addr} {xs : List Value} (h : w.ownsRow base e size (.slice A n c) n xs) (hn : 0 < n) : ∃ g, A = some ⟨g, 0, none⟩ := by
  rcases h.2 with ⟨_, h0⟩ | ⟨g, cap, cur, hv, _⟩
  · omega
  · injection hv with hv
    exact ⟨g, hv⟩

set_option maxRecDepth 100000 in
set_option maxHeartbeats 8000000 in
theorem scans_law (w : World) (A0 : Option Addr) (c0 : Nat) (raw : List Int) (h0 : Kd.C (Kd.int .u8) w A0 raw.length raw) (hb : ∀ x ∈ raw, 0 ≤ x ∧ x ≤ 255) (_ : raw.length ≤ 140737488351232) (hc0 : raw.length ≤ c0)
    (A1 : Option Addr) (c1 : Nat) (l : List Int) (h1 : Kd.C (Kd.int .i64) w A1 l.length l) (hl : ∀ x ∈ l, -9223372036854775808 ≤ x ∧ x ≤ 9223372036854775807) (_ : l.length ≤ 140737488351232) (_ : l.length ≤ c1)
    (at_ : Int) (hat : -9223372036854775808 ≤ at_ ∧ at_ ≤ 9223372036854775807) (c : Int) (hcb : 0 ≤ c ∧ c ≤ 255) :
    Calls Try.prog 4 #[.slice A0 raw.length c0, .slice A1 l.length c1, .int .i64 at_, .int .u8 c] w fun e w' => e = .returned (.bool true) ∧ Below w.heap.size w w' := by
  have H0 := Lib.hid h0
  have HB := Lib.hid hb
  have HREC := Lib.hid (records_calls A1 c1 l w h1 hl)
  clear h0 hb h1 hl
  go_enter Try.func4, Try.ntmps4
  go_wp2_with fail
  refine HREC.out.mono ?_
  rintro e w7 ⟨v7, X, rfl, hR7, hxl, hxs, hb7⟩
  obtain ⟨Ax, cx, rfl, hcx, hCx⟩ := Kd.R_reads hR7
  have HCX := Lib.hid hCx
  have hX : X.length ≤ 6 := by omega
  have HSM := Lib.hid hxs
  clear hR7 hCx hxl hxs
  have hsz7 := hb7.size
  have HFL := Lib.hid (fun k => framesL_len (X.take k) 0 (fun x hx => by have := (HSM.out x (List.mem_of_mem_take hx)).1; omega) (by rw [List.length_take]; omega))
  go_wp2
  go_loopw [10, 11] (fun v i wr => ∃ k : Nat, i = .int .i64 k ∧ k ≤ X.length ∧ Hid (Kd.R (Kd.int .u8) 5 wr w7.heap.size (fun _ => True) v (framesL 0 (X.take k))) ∧ Below w7.heap.size w7 wr) (fun _ i _ => X.length - (intOf i).toNat)
  case atStart => exact ⟨0, rfl, Nat.zero_le _, Lib.hid (Kd.R_nil _ _ _ _ _), Below.refl _ _⟩
  case round =>
    obtain ⟨k, rfl, hk, hR, hB⟩ := hrel
    by_cases hlt : k < X.length
    · obtain ⟨ad, Ay, cy, e1, hcell, hyc, hCy⟩ := kl_at (Kd.C_below HCX.out hB) k hlt hlt
      subst e1
      have hy := HSM.out X[k] (List.getElem_mem hlt)
      have hsn : framesL 0 (X.take (k + 1)) = framesL 0 (X.take k) ++ frameL (k : Int) X[k] := by
        rw [List.take_succ_eq_append_getElem hlt, framesL_snoc, Nat.zero_add, List.length_take, Nat.min_eq_left (by omega)]
      have HSN := Lib.hid hsn
      have hfl1 := (HFL.out k).2
      rw [List.length_take, Nat.min_eq_left (by omega)] at hfl1
      generalize X[k] = y at hcell hyc hCy hy HSN
      obtain ⟨hy1, hy2⟩ := hy
      have hfy := frameL_length (k : Int) (by omega) y (by omega)
      have HF := Lib.hid (Ref07.frame_calls (k : Int) (by omega) Ay cy y hy2 (by omega) wr hCy)
      generalize frameL (k : Int) y = fr at HSN hfy HF
      generalize framesL 0 (X.take k) = acc at hR HSN hfl1
      clear hCy hsn
      have hk0 : (0 : Int) ≤ (k : Int) := by omega
      have hka : (k : Int) < (X.length : Int) := by omega
      go_wp2_with (first
        | (go_at_call 10; refine HF.out.mono ?_; rintro e w8 ⟨v8, rfl, hR8, hB8⟩; obtain ⟨Af, cf, rfl, hcf8, hCf8⟩ := Kd.R_reads hR8; have HCF8 := Lib.hid hCf8; have HR8 := Lib.hid (Kd.R_below hR.out hB8); have hB9 : Below w7.heap.size w7 w8 := hB.trans (hB8.mono hB.size); clear hCf8 hR8)
        | (at_builtin; refine Kd.R_append_rows (Kd.int .u8) (Rr := (Kd.int .u8).K w8) (w0 := w7) w7.heap.size rfl (.tmp 26) (.tmp 32) 23 5 (.int .u8 0) 1 rfl Try.underlying23 info8 rfl (by decide) (by decide) u10 acc fr Af fr.length cf (fun _ => True) (fun _ => False) rfl rfl HR8.out HCF8.out (fun _ _ h => h) (fun _ h => h.elim) (fun _ _ => trivial) hB9 hB9.size (by omega) ?_; intro v9 w9 ho9 hb9 hg9 _))
      go_roundw
      case rel => exact ⟨k + 1, (by first | rfl | simp), by omega, Lib.hid (by rw [HSN.out]; exact ho9), hb9⟩
      case measure => simp [intOf]; omega
    · obtain rfl : k = X.length := by omega
      rw [List.take_length] at hR
      have hfl1 := HFL.out X.length
      rw [List.take_length] at hfl1
      have hfb := framesL_byte X 0 (fun x hx => (HSM.out x hx).2)
      generalize framesL 0 X = F at hR hfl1 hfb
      obtain ⟨Aa, ca, rfl, hca, _⟩ := Kd.R_reads hR.out
      have hB8 : Below w.heap.size w wr := hb7.trans (hB.mono hsz7)
      have HFB := Lib.hid hfb
      clear hfb
      by_cases hF : 0 < F.length
      · obtain ⟨g, rfl⟩ := row_block (Kd.own_of_R hR.out) hF
        go_wp2_with (go_at_call 16; refine (around_calls at_ F.length hat (by omega) _).mono ?_; rintro e w' ⟨r, rfl, hr, rfl⟩; obtain ⟨hcl, hfz⟩ := Kd.R_cell (0 : Int) hR.out (r : Int) (by omega) hr; rw [Int.toNat_natCast] at hcl hfz; have hr0 : (0 : Int) ≤ (r : Int) := by omega)
        have hP := Kd.R_put hR.out (r : Int) c
        rw [Int.toNat_natCast] at hP
        have hTb := set_byte (i := r) HFB.out hcb
        have hTl : (F.set r c).length = F.length := List.length_set
        have hBT : Below w7.heap.size w7 (wr.setCell ⟨g, r, none⟩ (.int .u8 c)) := hB.grown hP.2 hB.size (fun k e => by cases e; exact own_base (Kd.own_of_R hR.out) g rfl)
        obtain ⟨Ab, cb, e, hcT, hCT⟩ := Kd.R_reads hP.1
        injection e with e1 e2 e3
        subst e1 e3
        rw [hTl] at hcT hCT
        clear hP hcl hfz e2
        generalize F.set r c = T at hTb hTl hCT
        generalize wr.setCell ⟨g, r, none⟩ (.int .u8 c) = WT at hBT hCT ⊢
        generalize (some ⟨g, 0, none⟩ : Option Addr) = Aa at hCT ⊢
        have HBT := Lib.hid hBT
        have HTB := Lib.hid hTb
        have HCT := Lib.hid hCT
        clear hBT hTb hCT hB hR HFB
        have HRAW := Lib.hid (fun (W : World) (h : Below w7.heap.size w7 W) => Kd.C_below H0.out (hb7.trans (h.mono hsz7)))
        have hR5b : ∀ x ∈ raw.take 5, 0 ≤ x ∧ x ≤ 255 := fun x hx => HB.out x (List.mem_of_mem_take hx)
        have hR60b : ∀ x ∈ raw.take 60, 0 ≤ x ∧ x ≤ 255 := fun x hx => HB.out x (List.mem_of_mem_take hx)
        have hR5 : (raw.take 5).length = min 5 raw.length := List.length_take
        have hR60 : (raw.take 60).length = min 60 raw.length := List.length_take
        obtain ⟨hcut, _, hcl5⟩ := cut_run A0 c0 raw (min raw.length 5) (by omega) hc0 .i64 w H0.out
        have HC5 := Lib.hid (fun (W : World) (h : Below w7.heap.size w7 W) => (cut_run A0 c0 raw (min raw.length 5) (by omega) hc0 .i64 W (HRAW.out W h)).2.1)
        have htk5 : raw.take (min raw.length 5) = raw.take 5 := List.take_eq_take_iff.2 (by omega)
        rw [htk5] at hcut HC5 hcl5
        by_cases h5 : (5 : Int) < (raw.length : Int)
        · have e5 : min raw.length 5 = 5 := by omega
          have e6 : (raw.take 5).length = 5 := by omega
          rw [e5, e6] at hcut
          have hcut' : ∀ W : World, (Instr.slice 23 (.slice A0 raw.length c0) none (some (.int .i64 5)) none).run Try.prog W = .ok (.slice A0 5 c0) W := hcut
          clear hcut
          go_region_with (first
            | (go_at_call 7; refine (few_calls A0 c0 raw 60 (by omega) hc0 _ (HRAW.out _ ?_)).mono ?_; (exact below_drew HBT.out); rintro e w8 ⟨v8, rfl, hR8, hB8⟩; obtain ⟨A8, c8, rfl, hcc8, hC8⟩ := Kd.R_reads hR8; have hB9 := Lib.hid ((below_drew HBT.out).trans (hB8.mono (below_drew HBT.out).size)); have hC8 := Lib.hid hC8; have HCT8 := Lib.hid (Kd.C_below HCT.out (below_drew (Below.refl _ _))); have HCT8 := Lib.hid (Kd.C_below HCT8.out hB8); clear hR8 hB8)
            | (go_at_call 10; refine (rframe_calls_n 1 (by decide) A0 c0 5 (raw.take 5) e6 hR5b (by omega) _ (HC5.out _ hB9.out)).mono ?_; rintro e w10 ⟨v10, rfl, hR10, hB10⟩; obtain ⟨A10, c10, rfl, hcc10, hC10⟩ := Kd.R_reads hR10; have hB11 := Lib.hid (hB9.out.trans (hB10.mono hB9.out.size)); have hC10 := Lib.hid hC10; have hC8 := Lib.hid (Kd.C_below hC8.out hB10); have HCT8 := Lib.hid (Kd.C_below HCT8.out hB10); clear hR10 hB10))
          all_goals
            have hfr1 := frameL_length 1 (by decide) (raw.take 5) (by omega)
            have hfr2 := frameL_byte 1 (raw.take 5) hR5b
            generalize frameL 1 (raw.take 5) = fr at hC10 hcc10 hfr1 hfr2 ⊢
            go_wp2
            have hY := lit3 _ A8 Aa A10 c8 ca c10 (raw.take 60) T fr hcc8 (by omega) hcc10 hC8.out (by rw [hTl]; exact HCT8.out) hC10.out
            rw [hR60, hTl] at hY
            have hYB : ∀ y ∈ [raw.take 60, T, fr], (∀ x ∈ y, 0 ≤ x ∧ x ≤ 255) ∧ y.length ≤ 2000 := by
              intro y hy
              simp only [List.mem_cons, List.not_mem_nil, or_false] at hy
              rcases hy with rfl | rfl | rfl
              · exact ⟨hR60b, by omega⟩
              · exact ⟨HTB.out, by omega⟩
              · exact ⟨hfr2, by omega⟩
            have hBY := hB11.out.alloc hB11.out.size (.cells #[.slice A8 (min 60 raw.length) c8, .slice Aa F.length ca, .slice A10 fr.length c10] 23)
            generalize [raw.take 60, T, fr] = Y at hY hYB
            generalize w10.alloc (.cells #[.slice A8 (min 60 raw.length) c8, .slice Aa F.length ca, .slice A10 fr.length c10] 23) = WL at hY hBY ⊢
            generalize (some ⟨w10.heap.size, 0, none⟩ : Option Addr) = AL at hY ⊢
            have HY := Lib.hid hY
            have HYB := Lib.hid hYB
            have hYl : Y.length = 3 := hY.1
            clear hY hYB hC8 hC10 HCT8 hB9 hB11
            have hszL := hBY.size
            go_loopw [13] (fun i wr => ∃ k : Nat, i = .int .i64 k ∧ k ≤ 3 ∧ Below WL.heap.size WL wr) (fun i _ => 3 - (intOf i).toNat)
            case atStart => exact ⟨0, rfl, by omega, Below.refl _ _⟩
            case round =>
              obtain ⟨k, rfl, hk, hB⟩ := hrel
              by_cases hlt : k < 3
              · obtain ⟨ad, Ay, cy, e1, hcell, hyc, hCy⟩ := kl_at (Kd.C_below HY.out hB) k (by omega) (by omega)
                subst e1
                obtain ⟨hy1, hy2⟩ := HYB.out Y[k] (List.getElem_mem (by omega))
                have HAT := Lib.hid (fun (W : World) (h : Below WL.heap.size WL W) => kl_at (Kd.C_below HY.out h) k (by omega) (by omega))
                generalize Y[k] = y at hcell hyc hCy hy1 hy2 HAT
                have hgl := scanR_len (y.length + 1) 0 0 y
                have hgm : ∀ x ∈ (scanR (y.length + 1) 0 0 y).map Prod.fst, x.length ≤ 140737488355328 := by
                  intro x hx
                  obtain ⟨r, hr, rfl⟩ := List.mem_map.1 hx
                  have := scanR_mem _ _ _ _ r hr
                  omega
                have hgl2 : ((scanR (y.length + 1) 0 0 y).map Prod.fst).length ≤ y.length + 1 := by rw [List.length_map]; omega
                have HSC := Lib.hid (fun (A : Option Addr) (c : Nat) (W : World) (hc : y.length ≤ c) (h : Kd.C (Kd.int .u8) W A y.length y) => scan_calls_n A c y.length y rfl hy1 (by omega) (by omega) W h)
                have HRS := Lib.hid (fun (A : Option Addr) (c : Nat) (W : World) (hc : y.length ≤ c) (h : Kd.C (Kd.int .u8) W A y.length y) => rscan_calls_n A c y.length y rfl hy1 (by omega) (by omega) W h)
                generalize endL (scanR (y.length + 1) 0 0 y) = E at HSC HRS
                generalize (scanR (y.length + 1) 0 0 y).map Prod.fst = G at hgm hgl2 HSC HRS
                have HGM := Lib.hid hgm
                have hE : ((E : Int) != E) = false := by simp
                have hk0 : (0 : Int) ≤ (k : Int) := by omega
                have hka : (k : Int) < 3 := by omega
                have HCY := Lib.hid hCy
                clear hgl hgm hCy hy1
                go_wp2_with fail
                refine (HSC.out Ay cy wr hyc HCY.out).mono ?_
                rintro e w12 ⟨v12, rfl, hR12, hB12⟩
                obtain ⟨Ag, cg, rfl, _, hCg⟩ := Kd.R_reads hR12
                have HCG := Lib.hid hCg
                have hB13 : Below WL.heap.size WL w12 := hB.trans (hB12.mono hB.size)
                obtain ⟨ad2, Ay2, cy2, e2, hcell2, hyc2, hCy2⟩ := HAT.out w12 hB13
                injection e2 with e2
                subst e2
                have HCY2 := Lib.hid hCy2
                clear hCg hR12 hCy2 hcell
                go_wp2_with fail
                refine (HRS.out Ay2 cy2 w12 hyc2 HCY2.out).mono ?_
                rintro e w14 ⟨v14, rfl, hR14, hB14⟩
                obtain ⟨Ah, ch, rfl, _, hCh⟩ := Kd.R_reads hR14
                have HCH := Lib.hid (kf_reads hB14 hCh)
                have HCG2 := Lib.hid (Kd.C_below HCG.out hB14)
                have hB15 : Below WL.heap.size WL w14 := hB13.trans (hB14.mono hB13.size)
                clear hCh hR14 HCG hcell2
                have HSL := Lib.hid (sameLists_calls Ag Ah cg ch G G (by omega) HGM.out w14 HCG2.out HCH.out)
                rw [decide_eq_true rfl] at HSL
                go_wp2_with fail
                refine HSL.out.mono ?_
                rintro e w16 ⟨rfl, hB16⟩
                have hB17 : Below WL.heap.size WL w16 := hB15.trans (hB16.mono hB15.size)
                go_wp2
                go_roundw
                case rel => exact ⟨k + 1, (by first | rfl | simp), by omega, hB17⟩
                case measure => simp [intOf]; omega
              · obtain rfl : k = 3 := by omega
                go_wp2_with fail
                refine (lives_calls wr).mono ?_
                rintro e w18 ⟨rfl, hB18⟩
                have hB19 : Below WL.heap.size WL w18 := hB.trans (hB18.mono hB.size)
                go_wp2
                go_ret
                exact ⟨rfl, hb7.trans ((hBY.trans (hB19.mono hszL)).mono hsz7)⟩
        · have e5 : min raw.length 5 = raw.length := by omega
          have e6 : (raw.take 5).length = raw.length := by omega
          rw [e5, e6] at hcut
          have hcut' : ∀ W : World, (Instr.slice 23 (.slice A0 raw.length c0) none (some (.int .i64 raw.length)) none).run Try.prog W = .ok (.slice A0 raw.length c0) W := hcut
          clear hcut
          go_region_with (first
            | (go_at_call 7; refine (few_calls A0 c0 raw 60 (by omega) hc0 _ (HRAW.out _ ?_)).mono ?_; (exact below_drew HBT.out); rintro e w8 ⟨v8, rfl, hR8, hB8⟩; obtain ⟨A8, c8, rfl, hcc8, hC8⟩ := Kd.R_reads hR8; have hB9 := Lib.hid ((below_drew HBT.out).trans (hB8.mono (below_drew HBT.out).size)); have hC8 := Lib.hid hC8; have HCT8 := Lib.hid (Kd.C_below HCT.out (below_drew (Below.refl _ _))); have HCT8 := Lib.hid (Kd.C_below HCT8.out hB8); clear hR8 hB8)
            | (go_at_call 10; refine (rframe_calls_n 1 (by decide) A0 c0 raw.length (raw.take 5) e6 hR5b (by omega) _ (HC5.out _ hB9.out)).mono ?_; rintro e w10 ⟨v10, rfl, hR10, hB10⟩; obtain ⟨A10, c10, rfl, hcc10, hC10⟩ := Kd.R_reads hR10; have hB11 := Lib.hid (hB9.out.trans (hB10.mono hB9.out.size)); have hC10 := Lib.hid hC10; have hC8 := Lib.hid (Kd.C_below hC8.out hB10); have HCT8 := Lib.hid (Kd.C_below HCT8.out hB10); clear hR10 hB10))
          all_goals
            have hfr1 := frameL_length 1 (by decide) (raw.take 5) (by omega)
            have hfr2 := frameL_byte 1 (raw.take 5) hR5b
            generalize frameL 1 (raw.take 5) = fr at hC10 hcc10 hfr1 hfr2 ⊢
            go_wp2
            have hY := lit3 _ A8 Aa A10 c8 ca c10 (raw.take 60) T fr hcc8 (by omega) hcc10 hC8.out (by rw [hTl]; exact HCT8.out) hC10.out
            rw [hR60, hTl] at hY
            have hYB : ∀ y ∈ [raw.take 60, T, fr], (∀ x ∈ y, 0 ≤ x ∧ x ≤ 255) ∧ y.length ≤ 2000 := by
              intro y hy
              simp only [List.mem_cons, List.not_mem_nil, or_false] at hy
              rcases hy with rfl | rfl | rfl
              · exact ⟨hR60b, by omega⟩
              · exact ⟨HTB.out, by omega⟩
              · exact ⟨hfr2, by omega⟩
            have hBY := hB11.out.alloc hB11.out.size (.cells #[.slice A8 (min 60 raw.length) c8, .slice Aa F.length ca, .slice A10 fr.length c10] 23)
            generalize [raw.take 60, T, fr] = Y at hY hYB
            generalize w10.alloc (.cells #[.slice A8 (min 60 raw.length) c8, .slice Aa F.length ca, .slice A10 fr.length c10] 23) = WL at hY hBY ⊢
            generalize (some ⟨w10.heap.size, 0, none⟩ : Option Addr) = AL at hY ⊢
            have HY := Lib.hid hY
            have HYB := Lib.hid hYB
            have hYl : Y.length = 3 := hY.1
            clear hY hYB hC8 hC10 HCT8 hB9 hB11
            have hszL := hBY.size
            go_loopw [13] (fun i wr => ∃ k : Nat, i = .int .i64 k ∧ k ≤ 3 ∧ Below WL.heap.size WL wr) (fun i _ => 3 - (intOf i).toNat)
            case atStart => exact ⟨0, rfl, by omega, Below.refl _ _⟩
            case round =>
              obtain ⟨k, rfl, hk, hB⟩ := hrel
              by_cases hlt : k < 3
              · obtain ⟨ad, Ay, cy, e1, hcell, hyc, hCy⟩ := kl_at (Kd.C_below HY.out hB) k (by omega) (by omega)
                subst e1
                obtain ⟨hy1, hy2⟩ := HYB.out Y[k] (List.getElem_mem (by omega))
                have HAT := Lib.hid (fun (W : World) (h : Below WL.heap.size WL W) => kl_at (Kd.C_below HY.out h) k (by omega) (by omega))
                generalize Y[k] = y at hcell hyc hCy hy1 hy2 HAT
                have hgl := scanR_len (y.length + 1) 0 0 y
                have hgm : ∀ x ∈ (scanR (y.length + 1) 0 0 y).map Prod.fst, x.length ≤ 140737488355328 := by
                  intro x hx
                  obtain ⟨r, hr, rfl⟩ := List.mem_map.1 hx
                  have := scanR_mem _ _ _ _ r hr
                  omega
                have hgl2 : ((scanR (y.length + 1) 0 0 y).map Prod.fst).length ≤ y.length + 1 := by rw [List.length_map]; omega
                have HSC := Lib.hid (fun (A : Option Addr) (c : Nat) (W : World) (hc : y.length ≤ c) (h : Kd.C (Kd.int .u8) W A y.length y) => scan_calls_n A c y.length y rfl hy1 (by omega) (by omega) W h)
                have HRS := Lib.hid (fun (A : Option Addr) (c : Nat) (W : World) (hc : y.length ≤ c) (h : Kd.C (Kd.int .u8) W A y.length y) => rscan_calls_n A c y.length y rfl hy1 (by omega) (by omega) W h)
                generalize endL (scanR (y.length + 1) 0 0 y) = E at HSC HRS
                generalize (scanR (y.length + 1) 0 0 y).map Prod.fst = G at hgm hgl2 HSC HRS
                have HGM := Lib.hid hgm
                have hE : ((E : Int) != E) = false := by simp
                have hk0 : (0 : Int) ≤ (k : Int) := by omega
                have hka : (k : Int) < 3 := by omega
                have HCY := Lib.hid hCy
                clear hgl hgm hCy hy1
                go_wp2_with fail
                refine (HSC.out Ay cy wr hyc HCY.out).mono ?_
                rintro e w12 ⟨v12, rfl, hR12, hB12⟩
                obtain ⟨Ag, cg, rfl, _, hCg⟩ := Kd.R_reads hR12
                have HCG := Lib.hid hCg
                have hB13 : Below WL.heap.size WL w12 := hB.trans (hB12.mono hB.size)
                obtain ⟨ad2, Ay2, cy2, e2, hcell2, hyc2, hCy2⟩ := HAT.out w12 hB13
                injection e2 with e2
                subst e2
                have HCY2 := Lib.hid hCy2
                clear hCg hR12 hCy2 hcell
                go_wp2_with fail
                refine (HRS.out Ay2 cy2 w12 hyc2 HCY2.out).mono ?_
                rintro e w14 ⟨v14, rfl, hR14, hB14⟩
                obtain ⟨Ah, ch, rfl, _, hCh⟩ := Kd.R_reads hR14
                have HCH := Lib.hid (kf_reads hB14 hCh)
                have HCG2 := Lib.hid (Kd.C_below HCG.out hB14)
                have hB15 : Below WL.heap.size WL w14 := hB13.trans (hB14.mono hB13.size)
                clear hCh hR14 HCG hcell2
                have HSL := Lib.hid (sameLists_calls Ag Ah cg ch G G (by omega) HGM.out w14 HCG2.out HCH.out)
                rw [decide_eq_true rfl] at HSL
                go_wp2_with fail
                refine HSL.out.mono ?_
                rintro e w16 ⟨rfl, hB16⟩
                have hB17 : Below WL.heap.size WL w16 := hB15.trans (hB16.mono hB15.size)
                go_wp2
                go_roundw
                case rel => exact ⟨k + 1, (by first | rfl | simp), by omega, hB17⟩
                case measure => simp [intOf]; omega
              · obtain rfl : k = 3 := by omega
                go_wp2_with fail
                refine (lives_calls wr).mono ?_
                rintro e w18 ⟨rfl, hB18⟩
                have hB19 : Below WL.heap.size WL w18 := hB.trans (hB18.mono hB.size)
                go_wp2
                go_ret
                exact ⟨rfl, hb7.trans ((hBY.trans (hB19.mono hszL)).mono hsz7)⟩
      · have HBT := Lib.hid hB
        obtain ⟨T, hTl, HTB, HCT⟩ : ∃ T : List Int, T.length = F.length ∧ Hid (∀ x ∈ T, 0 ≤ x ∧ x ≤ 255) ∧ Hid (Kd.C (Kd.int .u8) wr Aa F.length T) :=
          ⟨F, rfl, HFB, Lib.hid (by obtain ⟨A, c, e, _, h⟩ := Kd.R_reads hR.out; cases e; exact h)⟩
        clear hB hR
        go_wp2
        generalize wr = WT at HBT HCT ⊢
        have HRAW := Lib.hid (fun (W : World) (h : Below w7.heap.size w7 W) => Kd.C_below H0.out (hb7.trans (h.mono hsz7)))
        have hR5b : ∀ x ∈ raw.take 5, 0 ≤ x ∧ x ≤ 255 := fun x hx => HB.out x (List.mem_of_mem_take hx)
        have hR60b : ∀ x ∈ raw.take 60, 0 ≤ x ∧ x ≤ 255 := fun x hx => HB.out x (List.mem_of_mem_take hx)
        have hR5 : (raw.take 5).length = min 5 raw.length := List.length_take
        have hR60 : (raw.take 60).length = min 60 raw.length := List.length_take
        obtain ⟨hcut, _, hcl5⟩ := cut_run A0 c0 raw (min raw.length 5) (by omega) hc0 .i64 w H0.out
        have HC5 := Lib.hid (fun (W : World) (h : Below w7.heap.size w7 W) => (cut_run A0 c0 raw (min raw.length 5) (by omega) hc0 .i64 W (HRAW.out W h)).2.1)
        have htk5 : raw.take (min raw.length 5) = raw.take 5 := List.take_eq_take_iff.2 (by omega)
        rw [htk5] at hcut HC5 hcl5
        by_cases h5 : (5 : Int) < (raw.length : Int)
        · have e5 : min raw.length 5 = 5 := by omega
          have e6 : (raw.take 5).length = 5 := by omega
          rw [e5, e6] at hcut
          have hcut' : ∀ W : World, (Instr.slice 23 (.slice A0 raw.length c0) none (some (.int .i64 5)) none).run Try.prog W = .ok (.slice A0 5 c0) W := hcut
          clear hcut
          go_region_with (first
            | (go_at_call 7; refine (few_calls A0 c0 raw 60 (by omega) hc0 _ (HRAW.out _ ?_)).mono ?_; (exact below_drew HBT.out); rintro e w8 ⟨v8, rfl, hR8, hB8⟩; obtain ⟨A8, c8, rfl, hcc8, hC8⟩ := Kd.R_reads hR8; have hB9 := Lib.hid ((below_drew HBT.out).trans (hB8.mono (below_drew HBT.out).size)); have hC8 := Lib.hid hC8; have HCT8 := Lib.hid (Kd.C_below HCT.out (below_drew (Below.refl _ _))); have HCT8 := Lib.hid (Kd.C_below HCT8.out hB8); clear hR8 hB8)
            | (go_at_call 10; refine (rframe_calls_n 1 (by decide) A0 c0 5 (raw.take 5) e6 hR5b (by omega) _ (HC5.out _ hB9.out)).mono ?_; rintro e w10 ⟨v10, rfl, hR10, hB10⟩; obtain ⟨A10, c10, rfl, hcc10, hC10⟩ := Kd.R_reads hR10; have hB11 := Lib.hid (hB9.out.trans (hB10.mono hB9.out.size)); have hC10 := Lib.hid hC10; have hC8 := Lib.hid (Kd.C_below hC8.out hB10); have HCT8 := Lib.hid (Kd.C_below HCT8.out hB10); clear hR10 hB10))
          all_goals
            have hfr1 := frameL_length 1 (by decide) (raw.take 5) (by omega)
            have hfr2 := frameL_byte 1 (raw.take 5) hR5b
            generalize frameL 1 (raw.take 5) = fr at hC10 hcc10 hfr1 hfr2 ⊢
            go_wp2
            have hY := lit3 _ A8 Aa A10 c8 ca c10 (raw.take 60) T fr hcc8 (by omega) hcc10 hC8.out (by rw [hTl]; exact HCT8.out) hC10.out
            rw [hR60, hTl] at hY
            have hYB : ∀ y ∈ [raw.take 60, T, fr], (∀ x ∈ y, 0 ≤ x ∧ x ≤ 255) ∧ y.length ≤ 2000 := by
              intro y hy
              simp only [List.mem_cons, List.not_mem_nil, or_false] at hy
              rcases hy with rfl | rfl | rfl
              · exact ⟨hR60b, by omega⟩
              · exact ⟨HTB.out, by omega⟩
              · exact ⟨hfr2, by omega⟩
            have hBY := hB11.out.alloc hB11.out.size (.cells #[.slice A8 (min 60 raw.length) c8, .slice Aa F.length ca, .slice A10 fr.length c10] 23)
            generalize [raw.take 60, T, fr] = Y at hY hYB
            generalize w10.alloc (.cells #[.slice A8 (min 60 raw.length) c8, .slice Aa F.length ca, .slice A10 fr.length c10] 23) = WL at hY hBY ⊢
            generalize (some ⟨w10.heap.size, 0, none⟩ : Option Addr) = AL at hY ⊢
            have HY := Lib.hid hY
            have HYB := Lib.hid hYB
            have hYl : Y.length = 3 := hY.1
            clear hY hYB hC8 hC10 HCT8 hB9 hB11
            have hszL := hBY.size
            go_loopw [13] (fun i wr => ∃ k : Nat, i = .int .i64 k ∧ k ≤ 3 ∧ Below WL.heap.size WL wr) (fun i _ => 3 - (intOf i).toNat)
            case atStart => exact ⟨0, rfl, by omega, Below.refl _ _⟩
            case round =>
              obtain ⟨k, rfl, hk, hB⟩ := hrel
              by_cases hlt : k < 3
              · obtain ⟨ad, Ay, cy, e1, hcell, hyc, hCy⟩ := kl_at (Kd.C_below HY.out hB) k (by omega) (by omega)
                subst e1
                obtain ⟨hy1, hy2⟩ := HYB.out Y[k] (List.getElem_mem (by omega))
                have HAT := Lib.hid (fun (W : World) (h : Below WL.heap.size WL W) => kl_at (Kd.C_below HY.out h) k (by omega) (by omega))
                generalize Y[k] = y at hcell hyc hCy hy1 hy2 HAT
                have hgl := scanR_len (y.length + 1) 0 0 y
                have hgm : ∀ x ∈ (scanR (y.length + 1) 0 0 y).map Prod.fst, x.length ≤ 140737488355328 := by
                  intro x hx
                  obtain ⟨r, hr, rfl⟩ := List.mem_map.1 hx
                  have := scanR_mem _ _ _ _ r hr
                  omega
                have hgl2 : ((scanR (y.length + 1) 0 0 y).map Prod.fst).length ≤ y.length + 1 := by rw [List.length_map]; omega
                have HSC := Lib.hid (fun (A : Option Addr) (c : Nat) (W : World) (hc : y.length ≤ c) (h : Kd.C (Kd.int .u8) W A y.length y) => scan_calls_n A c y.length y rfl hy1 (by omega) (by omega) W h)
                have HRS := Lib.hid (fun (A : Option Addr) (c : Nat) (W : World) (hc : y.length ≤ c) (h : Kd.C (Kd.int .u8) W A y.length y) => rscan_calls_n A c y.length y rfl hy1 (by omega) (by omega) W h)
                generalize endL (scanR (y.length + 1) 0 0 y) = E at HSC HRS
                generalize (scanR (y.length + 1) 0 0 y).map Prod.fst = G at hgm hgl2 HSC HRS
                have HGM := Lib.hid hgm
                have hE : ((E : Int) != E) = false := by simp
                have hk0 : (0 : Int) ≤ (k : Int) := by omega
                have hka : (k : Int) < 3 := by omega
                have HCY := Lib.hid hCy
                clear hgl hgm hCy hy1
                go_wp2_with fail
                refine (HSC.out Ay cy wr hyc HCY.out).mono ?_
                rintro e w12 ⟨v12, rfl, hR12, hB12⟩
                obtain ⟨Ag, cg, rfl, _, hCg⟩ := Kd.R_reads hR12
                have HCG := Lib.hid hCg
                have hB13 : Below WL.heap.size WL w12 := hB.trans (hB12.mono hB.size)
                obtain ⟨ad2, Ay2, cy2, e2, hcell2, hyc2, hCy2⟩ := HAT.out w12 hB13
                injection e2 with e2
                subst e2
                have HCY2 := Lib.hid hCy2
                clear hCg hR12 hCy2 hcell
                go_wp2_with fail
                refine (HRS.out Ay2 cy2 w12 hyc2 HCY2.out).mono ?_
                rintro e w14 ⟨v14, rfl, hR14, hB14⟩
                obtain ⟨Ah, ch, rfl, _, hCh⟩ := Kd.R_reads hR14
                have HCH := Lib.hid (kf_reads hB14 hCh)
                have HCG2 := Lib.hid (Kd.C_below HCG.out hB14)
                have hB15 : Below WL.heap.size WL w14 := hB13.trans (hB14.mono hB13.size)
                clear hCh hR14 HCG hcell2
                have HSL := Lib.hid (sameLists_calls Ag Ah cg ch G G (by omega) HGM.out w14 HCG2.out HCH.out)
                rw [decide_eq_true rfl] at HSL
                go_wp2_with fail
                refine HSL.out.mono ?_
                rintro e w16 ⟨rfl, hB16⟩
                have hB17 : Below WL.heap.size WL w16 := hB15.trans (hB16.mono hB15.size)
                go_wp2
                go_roundw
                case rel => exact ⟨k + 1, (by first | rfl | simp), by omega, hB17⟩
                case measure => simp [intOf]; omega
              · obtain rfl : k = 3 := by omega
                go_wp2_with fail
                refine (lives_calls wr).mono ?_
                rintro e w18 ⟨rfl, hB18⟩
                have hB19 : Below WL.heap.size WL w18 := hB.trans (hB18.mono hB.size)
                go_wp2
                go_ret
                exact ⟨rfl, hb7.trans ((hBY.trans (hB19.mono hszL)).mono hsz7)⟩
        · have e5 : min raw.length 5 = raw.length := by omega
          have e6 : (raw.take 5).length = raw.length := by omega
          rw [e5, e6] at hcut
          have hcut' : ∀ W : World, (Instr.slice 23 (.slice A0 raw.length c0) none (some (.int .i64 raw.length)) none).run Try.prog W = .ok (.slice A0 raw.length c0) W := hcut
          clear hcut
          go_region_with (first
            | (go_at_call 7; refine (few_calls A0 c0 raw 60 (by omega) hc0 _ (HRAW.out _ ?_)).mono ?_; (exact below_drew HBT.out); rintro e w8 ⟨v8, rfl, hR8, hB8⟩; obtain ⟨A8, c8, rfl, hcc8, hC8⟩ := Kd.R_reads hR8; have hB9 := Lib.hid ((below_drew HBT.out).trans (hB8.mono (below_drew HBT.out).size)); have hC8 := Lib.hid hC8; have HCT8 := Lib.hid (Kd.C_below HCT.out (below_drew (Below.refl _ _))); have HCT8 := Lib.hid (Kd.C_below HCT8.out hB8); clear hR8 hB8)
            | (go_at_call 10; refine (rframe_calls_n 1 (by decide) A0 c0 raw.length (raw.take 5) e6 hR5b (by omega) _ (HC5.out _ hB9.out)).mono ?_; rintro e w10 ⟨v10, rfl, hR10, hB10⟩; obtain ⟨A10, c10, rfl, hcc10, hC10⟩ := Kd.R_reads hR10; have hB11 := Lib.hid (hB9.out.trans (hB10.mono hB9.out.size)); have hC10 := Lib.hid hC10; have hC8 := Lib.hid (Kd.C_below hC8.out hB10); have HCT8 := Lib.hid (Kd.C_below HCT8.out hB10); clear hR10 hB10))
          all_goals
            have hfr1 := frameL_length 1 (by decide) (raw.take 5) (by omega)
            have hfr2 := frameL_byte 1 (raw.take 5) hR5b
            generalize frameL 1 (raw.take 5) = fr at hC10 hcc10 hfr1 hfr2 ⊢
            go_wp2
            have hY := lit3 _ A8 Aa A10 c8 ca c10 (raw.take 60) T fr hcc8 (by omega) hcc10 hC8.out (by rw [hTl]; exact HCT8.out) hC10.out
            rw [hR60, hTl] at hY
            have hYB : ∀ y ∈ [raw.take 60, T, fr], (∀ x ∈ y, 0 ≤ x ∧ x ≤ 255) ∧ y.length ≤ 2000 := by
              intro y hy
              simp only [List.mem_cons, List.not_mem_nil, or_false] at hy
              rcases hy with rfl | rfl | rfl
              · exact ⟨hR60b, by omega⟩
              · exact ⟨HTB.out, by omega⟩
              · exact ⟨hfr2, by omega⟩
            have hBY := hB11.out.alloc hB11.out.size (.cells #[.slice A8 (min 60 raw.length) c8, .slice Aa F.length ca, .slice A10 fr.length c10] 23)
            generalize [raw.take 60, T, fr] = Y at hY hYB
            generalize w10.alloc (.cells #[.slice A8 (min 60 raw.length) c8, .slice Aa F.length ca, .slice A10 fr.length c10] 23) = WL at hY hBY ⊢
            generalize (some ⟨w10.heap.size, 0, none⟩ : Option Addr) = AL at hY ⊢
            have HY := Lib.hid hY
            have HYB := Lib.hid hYB
            have hYl : Y.length = 3 := hY.1
            clear hY hYB hC8 hC10 HCT8 hB9 hB11
            have hszL := hBY.size
            go_loopw [13] (fun i wr => ∃ k : Nat, i = .int .i64 k ∧ k ≤ 3 ∧ Below WL.heap.size WL wr) (fun i _ => 3 - (intOf i).toNat)
            case atStart => exact ⟨0, rfl, by omega, Below.refl _ _⟩
            case round =>
              obtain ⟨k, rfl, hk, hB⟩ := hrel
              by_cases hlt : k < 3
              · obtain ⟨ad, Ay, cy, e1, hcell, hyc, hCy⟩ := kl_at (Kd.C_below HY.out hB) k (by omega) (by omega)
                subst e1
                obtain ⟨hy1, hy2⟩ := HYB.out Y[k] (List.getElem_mem (by omega))
                have HAT := Lib.hid (fun (W : World) (h : Below WL.heap.size WL W) => kl_at (Kd.C_below HY.out h) k (by omega) (by omega))
                generalize Y[k] = y at hcell hyc hCy hy1 hy2 HAT
                have hgl := scanR_len (y.length + 1) 0 0 y
                have hgm : ∀ x ∈ (scanR (y.length + 1) 0 0 y).map Prod.fst, x.length ≤ 140737488355328 := by
                  intro x hx
                  obtain ⟨r, hr, rfl⟩ := List.mem_map.1 hx
                  have := scanR_mem _ _ _ _ r hr
                  omega
                have hgl2 : ((scanR (y.length + 1) 0 0 y).map Prod.fst).length ≤ y.length + 1 := by rw [List.length_map]; omega
                have HSC := Lib.hid (fun (A : Option Addr) (c : Nat) (W : World) (hc : y.length ≤ c) (h : Kd.C (Kd.int .u8) W A y.length y) => scan_calls_n A c y.length y rfl hy1 (by omega) (by omega) W h)
                have HRS := Lib.hid (fun (A : Option Addr) (c : Nat) (W : World) (hc : y.length ≤ c) (h : Kd.C (Kd.int .u8) W A y.length y) => rscan_calls_n A c y.length y rfl hy1 (by omega) (by omega) W h)
                generalize endL (scanR (y.length + 1) 0 0 y) = E at HSC HRS
                generalize (scanR (y.length + 1) 0 0 y).map Prod.fst = G at hgm hgl2 HSC HRS
                have HGM := Lib.hid hgm
                have hE : ((E : Int) != E) = false := by simp
                have hk0 : (0 : Int) ≤ (k : Int) := by omega
                have hka : (k : Int) < 3 := by omega
                have HCY := Lib.hid hCy
                clear hgl hgm hCy hy1
                go_wp2_with fail
                refine (HSC.out Ay cy wr hyc HCY.out).mono ?_
                rintro e w12 ⟨v12, rfl, hR12, hB12⟩
                obtain ⟨Ag, cg, rfl, _, hCg⟩ := Kd.R_reads hR12
                have HCG := Lib.hid hCg
                have hB13 : Below WL.heap.size WL w12 := hB.trans (hB12.mono hB.size)
                obtain ⟨ad2, Ay2, cy2, e2, hcell2, hyc2, hCy2⟩ := HAT.out w12 hB13
                injection e2 with e2
                subst e2
                have HCY2 := Lib.hid hCy2
                clear hCg hR12 hCy2 hcell
                go_wp2_with fail
                refine (HRS.out Ay2 cy2 w12 hyc2 HCY2.out).mono ?_
                rintro e w14 ⟨v14, rfl, hR14, hB14⟩
                obtain ⟨Ah, ch, rfl, _, hCh⟩ := Kd.R_reads hR14
                have HCH := Lib.hid (kf_reads hB14 hCh)
                have HCG2 := Lib.hid (Kd.C_below HCG.out hB14)
                have hB15 : Below WL.heap.size WL w14 := hB13.trans (hB14.mono hB13.size)
                clear hCh hR14 HCG hcell2
                have HSL := Lib.hid (sameLists_calls Ag Ah cg ch G G (by omega) HGM.out w14 HCG2.out HCH.out)
                rw [decide_eq_true rfl] at HSL
                go_wp2_with fail
                refine HSL.out.mono ?_
                rintro e w16 ⟨rfl, hB16⟩
                have hB17 : Below WL.heap.size WL w16 := hB15.trans (hB16.mono hB15.size)
                go_wp2
                go_roundw
                case rel => exact ⟨k + 1, (by first | rfl | simp), by omega, hB17⟩
                case measure => simp [intOf]; omega
              · obtain rfl : k = 3 := by omega
                go_wp2_with fail
                refine (lives_calls wr).mono ?_
                rintro e w18 ⟨rfl, hB18⟩
                have hB19 : Below WL.heap.size WL w18 := hB.trans (hB18.mono hB.size)
                go_wp2
                go_ret
                exact ⟨rfl, hb7.trans ((hBY.trans (hB19.mono hszL)).mono hsz7)⟩

end Go.Proofs.Ytbihjkpbmebpbaa.Sc7
