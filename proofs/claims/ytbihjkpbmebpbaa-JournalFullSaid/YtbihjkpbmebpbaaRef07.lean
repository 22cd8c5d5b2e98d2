/- The reference functions of package refuterref07: what they return. -/
import Derived.Test.YtbihjkpbmebpbaaRef02
import Derived.Test.YtbihjkpbmebpbaaPl7
namespace Go.Proofs.Ytbihjkpbmebpbaa.Ref07
open Go.RowKit Go.Proofs Go.Proofs.Ytbihjkpbmebpbaa.Ma Go.Proofs.Ytbihjkpbmebpbaa.Wire Go.Proofs.Ytbihjkpbmebpbaa.Rdr Go.Proofs.Ytbihjkpbmebpbaa.Scan Go.Proofs.Ytbihjkpbmebpbaa.Ref01 Go.Proofs.Ytbihjkpbmebpbaa.Ref02 Go.Proofs.YtbihjkpbmebpbaaW.PrintWords Go.Proofs.YtbihjkpbmebpbaaW.PrintLast

set_option maxRecDepth 100000 in
set_option maxHeartbeats 1000000 in
theorem core_calls (n : Int) (hn : -9223372036854775808 ≤ n ∧ n ≤ 9223372036854775807) (A : Option Addr) (cap : Nat) (b : List Int) (hl : b.length ≤ 70368744177664) (w : World) (hC : Kd.C (Kd.int .u8) w A b.length b) :
    Calls Try.prog 32 #[.int .i64 n, .slice A b.length cap] w fun e w' => ∃ v, e = .returned v ∧ Kd.R (Kd.int .u8) 5 w' w.heap.size (fun _ => True) v (coreL n b) ∧ Below w.heap.size w w' := by
  have hvl := vint_length (zz n) (zz_lt n hn)
  have hrl := rawL_length b (by omega)
  have HI := Lib.hid (Ref02.int_calls n hn w)
  have HC := Lib.hid hC
  have HRW := Lib.hid (fun (w : World) (h : Kd.C (Kd.int .u8) w A b.length b) => Ref02.raw_calls A cap b hl w h)
  unfold coreL
  generalize vint (zz n) = pre at hvl HI ⊢
  generalize rawL b = raw at hrl HRW ⊢
  clear hC
  go_enter Try.func32, Try.ntmps32
  go_wp2_with fail
  refine HI.out.mono ?_
  rintro e w1 ⟨v, rfl, hR, hB⟩
  go_wp2_with fail
  refine (HRW.out w1 (Kd.C_below HC.out hB)).mono ?_
  rintro e w2 ⟨v2, rfl, hR2, hB2⟩
  obtain ⟨A2, c2, rfl, _, hC2⟩ := Kd.R_reads hR2
  have hRa := Kd.R_below hR hB2
  have hBa : Below w.heap.size w w2 := hB.trans (hB2.mono hB.size)
  go_wp2_with (at_builtin; refine Kd.R_append_rows (Kd.int .u8) (Rr := (Kd.int .u8).K w2) (w0 := w) w.heap.size rfl _ _ 23 5 (.int .u8 0) 1 rfl Try.underlying23 info8 rfl (by decide) (by decide) _ pre raw A2 raw.length c2 (fun _ => True) (fun _ => False) rfl rfl hRa hC2 (fun _ _ h => h) (fun _ h => h.elim) (fun _ _ => trivial) hBa hBa.size (by omega) ?_; intro v1 w3 ho hb hg _)
  go_ret
  exact ⟨_, rfl, ho, hb⟩

set_option maxRecDepth 100000 in
set_option maxHeartbeats 1000000 in
theorem frame_calls (n : Int) (hn : -9223372036854775808 ≤ n ∧ n ≤ 9223372036854775807) (A : Option Addr) (cap : Nat) (b : List Int) (hb255 : ∀ x ∈ b, 0 ≤ x ∧ x ≤ 255) (hl : b.length ≤ 70368744177000) (w : World) (hC : Kd.C (Kd.int .u8) w A b.length b) :
    Calls Try.prog 10 #[.int .i64 n, .slice A b.length cap] w fun e w' => ∃ v, e = .returned v ∧ Kd.R (Kd.int .u8) 5 w' w.heap.size (fun _ => True) v (frameL n b) ∧ Below w.heap.size w w' := by
  have hcl := coreL_length n hn b (by omega)
  have hcb := coreL_byte n b hb255
  have HK := Lib.hid (core_calls n hn A cap b (by omega) w hC)
  have hhn := bytesN_lt entryS (coreL n b)
  have hvl := vint_length _ hhn
  unfold frameL
  have HBY := Lib.hid (fun (A : Option Addr) (cap : Nat) (w : World) (h : Kd.C (Kd.int .u8) w A (coreL n b).length (coreL n b)) => Ref01.bytes_calls entryS (by decide) A cap (coreL n b) hcb (by omega) w h)
  generalize bytesN entryS (coreL n b) = hh at hhn hvl HBY ⊢
  generalize coreL n b = core at hcl hcb HK HBY ⊢
  have hrl := rawL_length core (by omega)
  have HRW := Lib.hid (fun (A : Option Addr) (cap : Nat) (w : World) (h : Kd.C (Kd.int .u8) w A core.length core) => Ref02.raw_calls A cap core (by omega) w h)
  have HVH := Lib.hid (fun (w : World) => Ref02.uint_calls hh hhn w)
  generalize rawL core = raw at hrl HRW ⊢
  generalize vint hh = vh at hvl HVH ⊢
  clear hC
  go_enter Try.func10, Try.ntmps10
  go_wp2_with fail
  refine HK.out.mono ?_
  rintro e w1 ⟨v, rfl, hR, hB⟩
  obtain ⟨A1, c1, rfl, _, hC1⟩ := Kd.R_reads hR
  have HC1 := Lib.hid hC1
  clear hC1 hR
  go_wp2_with fail
  refine (HRW.out A1 c1 w1 HC1.out).mono ?_
  rintro e w2 ⟨v2, rfl, hR2, hB2⟩
  have hBa : Below w.heap.size w w2 := hB.trans (hB2.mono hB.size)
  have HC2 := Lib.hid (Kd.C_below HC1.out hB2)
  have HR2 := Lib.hid (Kd.R_lower hR2 hB.size)
  clear hR2
  go_wp2_with fail
  refine (HBY.out A1 c1 w2 HC2.out).mono ?_
  rintro e w3 ⟨rfl, hB3⟩
  have hBb : Below w.heap.size w w3 := hBa.trans (hB3.mono hBa.size)
  have HR3 := Lib.hid (Kd.R_below HR2.out hB3)
  go_wp2_with fail
  refine (HVH.out w3).mono ?_
  rintro e w4 ⟨v4, rfl, hR4, hB4⟩
  have hBc : Below w.heap.size w w4 := hBb.trans (hB4.mono hBb.size)
  have hRa := Kd.R_below HR3.out hB4
  obtain ⟨A4, c4, rfl, _, hC4⟩ := Kd.R_reads hR4
  go_wp2_with (at_builtin; refine Kd.R_append_rows (Kd.int .u8) (Rr := (Kd.int .u8).K w4) (w0 := w) w.heap.size rfl _ _ 23 5 (.int .u8 0) 1 rfl Try.underlying23 info8 rfl (by decide) (by decide) _ raw vh A4 vh.length c4 (fun _ => True) (fun _ => False) rfl rfl hRa hC4 (fun _ _ h => h) (fun _ h => h.elim) (fun _ _ => trivial) hBc hBc.size (by omega) ?_; intro v1 w5 ho hb hg _)
  go_ret
  exact ⟨_, rfl, ho, hb⟩

theorem sameBytes_calls_n (A1 A2 : Option Addr) (c1 c2 : Nat) (a b : List Int) (n : Nat) (hn : b.length = n) (hl : a.length ≤ 140737488355328) (w : World) (hC1 : Kd.C (Kd.int .u8) w A1 a.length a) (hC2 : Kd.C (Kd.int .u8) w A2 b.length b) :
    Calls Try.prog 8 #[.slice A1 a.length c1, .slice A2 n c2] w fun e w' => e = .returned (.bool (decide (a = b))) ∧ ∃ n, w' = w.drewN n := by
  subst hn
  exact sameBytes_calls A1 A2 c1 c2 a b hl w hC1 hC2

/-- What 'first' returns. -/
def FirstSays (wB w : World) (k : Int) (b : List Int) (e : Ending) (w' : World) : Prop :=
  ∃ v, e = .returned (.tuple #[v, .bool (decide (frameL k (recL b) <+: b))]) ∧ (frameL k (recL b) <+: b → ∃ A c, v = .slice A (recL b).length c ∧ (recL b).length ≤ c ∧ Kd.C (Kd.int .u8) wB A (recL b).length (recL b)) ∧ Below w.heap.size w w'

theorem first_no {wB w w' : World} {k : Int} {b : List Int} {v : Value} (h : ¬ frameL k (recL b) <+: b) (hb : Below w.heap.size w w') : FirstSays wB w k b (.returned (.tuple #[v, .bool false])) w' :=
  ⟨v, by rw [decide_eq_false h], fun h' => absurd h' h, hb⟩
theorem first_yes {wB w w' : World} {k : Int} {b xs : List Int} {A : Option Addr} {c : Nat} (h : frameL k (recL b) <+: b) (hx : xs = recL b) (hc : xs.length ≤ c) (hC : Kd.C (Kd.int .u8) wB A xs.length xs) (hb : Below w.heap.size w w') : FirstSays wB w k b (.returned (.tuple #[.slice A xs.length c, .bool true])) w' := by
  subst hx
  exact ⟨_, by rw [decide_eq_true h], fun _ => ⟨A, c, rfl, hc, hC⟩, hb⟩

set_option maxRecDepth 100000 in
set_option maxHeartbeats 1000000 in
theorem first_calls (k : Int) (hk : -9223372036854775808 ≤ k ∧ k ≤ 9223372036854775807) (A : Option Addr) (cap : Nat) (b : List Int) (hb255 : ∀ x ∈ b, 0 ≤ x ∧ x ≤ 255) (hl : b.length ≤ 1099511627776) (hcap : b.length ≤ cap) (wB w : World) (hwB : Below wB.heap.size wB w) (hC : Kd.C (Kd.int .u8) wB A b.length b) :
    Calls Try.prog 37 #[.int .i64 k, .slice A b.length cap] w (FirstSays wB w k b) := by
  have hiff := refL_iff k hk b (by omega)
  have hrec := refL_rec k hk b (by omega)
  simp only [refL, decide_eq_true_eq] at hiff hrec
  have h1 := fun B w h => rraw_calls wB B b 0 hb255 w h
  have hc255 := rdRaw_byte b 0 hb255
  have hcl := rdRaw_len b 0
  generalize (rdRaw b 0).2.1 = rest0 at h1
  generalize (rdRaw b 0).1 = core at hiff hrec h1 hc255 hcl
  generalize (rdRaw b 0).2.2 = e1 at hiff hrec h1
  have h2 := fun B w h => rint_calls wB B core 0 hc255 w h
  have hr255 := rdUint_byte core 0 hc255
  have hrl := rdUint_le core 0
  generalize (rdUint core 0).2.1 = rest1 at hiff hrec h2 hr255 hrl
  generalize (rdUint core 0).2.2 = e0 at hiff hrec h2
  have h3 := fun B w h => rraw_calls wB B rest1 e0 hr255 w h
  have hx255 := rdRaw_byte rest1 e0 hr255
  have hxl := rdRaw_len rest1 e0
  generalize (rdRaw rest1 e0).2.1 = rest2 at h3
  generalize (rdRaw rest1 e0).1 = xs at hiff hrec h3 hx255 hxl
  generalize (rdRaw rest1 e0).2.2 = e2 at hiff hrec h3
  have Hiff := Lib.hid hiff
  have Hrec := Lib.hid hrec
  have H1 := Lib.hid h1
  have H2 := Lib.hid h2
  have H3 := Lib.hid h3
  have HC := Lib.hid hC
  clear hiff hrec h1 h2 h3 hC
  have hr0 : Rf wB (w.alloc (.cells #[.slice A b.length cap, .int .i64 0] 97)) w.heap.size b 0 := ⟨A, cap, b, World.alloc_heap_new w _, hcap, hwB.size, hwB.alloc hwB.size _, HC.out, fun _ => rfl⟩
  have hb0 : Below w.heap.size w (w.alloc (.cells #[.slice A b.length cap, .int .i64 0] 97)) := (Below.refl _ _).alloc (Nat.le_refl _) _
  go_enter Try.func37, Try.ntmps37
  go_wp2_with fail
  refine (H1.out w.heap.size _ hr0).mono ?_
  rintro e w1 ⟨Ac, cc, rfl, hcc, hCc, hr1, hk1⟩
  have hb1 : Below w.heap.size w w1 := hb0.trans (hk1.below hb0.size (Nat.le_refl _))
  clear hr0 hb0
  have hin : Rf wB (w1.alloc (.cells #[.slice Ac core.length cc, .int .i64 0] 97)) w1.heap.size core 0 := ⟨Ac, cc, core, World.alloc_heap_new w1 _, hcc, Nat.le_trans hwB.size hb1.size, (hwB.trans (hb1.mono hwB.size)).alloc (Nat.le_trans hwB.size hb1.size) _, hCc, fun _ => rfl⟩
  have hr2 : Rf wB (w1.alloc (.cells #[.slice Ac core.length cc, .int .i64 0] 97)) w.heap.size rest0 e1 := hr1.below ((Below.refl _ _).alloc (Nat.le_refl _) _)
  have hb2 : Below w.heap.size w (w1.alloc (.cells #[.slice Ac core.length cc, .int .i64 0] 97)) := hb1.alloc hb1.size _
  have hne : w.heap.size ≠ w1.heap.size := by have := hr1.lt; omega
  have hws := hb1.size
  have Hr2 := Lib.hid hr2
  clear hr1 hk1 hr2 hCc
  go_wp2_with fail
  refine (H2.out w1.heap.size _ hin).mono ?_
  rintro e w2 ⟨rfl, hi2, hk2⟩
  have Hr3 := Lib.hid (Hr2.out.kx hk2 hne (Nat.le_refl _) (Nat.le_trans hwB.size hws))
  have hb3 : Below w.heap.size w w2 := hb2.trans (hk2.below hb2.size hws)
  clear hin hk2 hb2
  go_wp2_with fail
  refine (H3.out w1.heap.size _ hi2).mono ?_
  rintro e w3 ⟨Ax, cx, rfl, hxc, hCx, hi3, hk3⟩
  have hr4 := Hr3.out.kx hk3 hne (Nat.le_refl _) (Nat.le_trans hwB.size hws)
  have hb4 : Below w.heap.size w w3 := hb3.trans (hk3.below hb3.size hws)
  have HCx := Lib.hid hCx
  clear hi2 hk3 hb3 hCx
  obtain ⟨q1, q2, q3, hq, _, _, _, _, _⟩ := hr4
  obtain ⟨p1, p2, p3, hp, _, _, _, _, _⟩ := hi3
  have cq := cell_of hq 1
  have cp := cell_of hp 1
  clear hq hp
  have H4 := Lib.hid (Ref07.frame_calls k hk Ax cx xs hx255 (by omega) w3 (Kd.C_below HCx.out (hwB.trans (hb4.mono hwB.size))))
  by_cases he1 : e1 = 0
  · subst he1
    by_cases he2 : e2 = 0
    · subst he2
      have hfl := frameL_length k hk xs (by omega)
      have hfp := frameL_pos k xs
      have hP : frameL k xs <+: b ↔ frameL k (recL b) <+: b := by have := Hiff.out; simpa using this
      have HP := Lib.hid hP
      clear hP
      generalize frameL k xs = fr at hfl hfp H4 HP
      by_cases hlen : b.length < fr.length
      · have hno : ¬ frameL k (recL b) <+: b := fun h => by have := (HP.out.2 h).length_le; omega
        have Hno := Lib.hid hno
        clear hno
        go_wp2_with fail
        refine H4.out.mono ?_
        rintro e w4 ⟨vf, rfl, hRf, hb5⟩
        obtain ⟨Af, cf, rfl, _, hCf⟩ := Kd.R_reads hRf
        clear hCf hRf
        have hb6 : Below w.heap.size w w4 := hb4.trans (hb5.mono hb4.size)
        go_wp2
        go_ret2
        exact first_no Hno.out hb6
      · obtain ⟨hcut, hCt, hct⟩ := cut_run A cap b fr.length (by omega) hcap .i64 wB HC.out
        have hlt : (b.take fr.length).length = fr.length := by rw [List.length_take]; omega
        have hd : decide (fr = b.take fr.length) = decide (frameL k (recL b) <+: b) := by
          rw [decide_eq_decide, ← HP.out]
          exact ⟨fun h => List.prefix_iff_eq_take.2 h, fun h => List.prefix_iff_eq_take.1 h⟩
        rw [hlt] at hcut
        have HCt := Lib.hid hCt
        clear hCt hct
        have HLT := Lib.hid hlt
        clear hlt
        generalize b.take fr.length = bt at HCt HLT hd
        go_wp2_with fail
        refine H4.out.mono ?_
        rintro e w4 ⟨vf, rfl, hRf, hb5⟩
        obtain ⟨Af, cf, rfl, _, hCf⟩ := Kd.R_reads hRf
        have hb6 : Below w.heap.size w w4 := hb4.trans (hb5.mono hb4.size)
        have HCf := Lib.hid hCf
        clear hCf hRf
        have HSB := Lib.hid (sameBytes_calls_n Af A cf cap fr bt fr.length HLT.out (by omega) w4 HCf.out (Kd.C_below HCt.out (hwB.trans (hb6.mono hwB.size))))
        rw [hd] at HSB
        clear hd
        by_cases hyes : frameL k (recL b) <+: b
        · have hx := Hrec.out hyes
          rw [decide_eq_true hyes] at HSB
          have Hy := Lib.hid hyes
          have HX := Lib.hid hx
          clear hyes hx
          go_wp2_with fail
          refine HSB.out.mono ?_
          rintro e w5 ⟨rfl, m, rfl⟩
          go_wp2
          go_ret2
          exact first_yes Hy.out HX.out hxc HCx.out (pw_below_drewN hb6 m)
        · rw [decide_eq_false hyes] at HSB
          have Hno := Lib.hid hyes
          clear hyes
          go_wp2_with fail
          refine HSB.out.mono ?_
          rintro e w5 ⟨rfl, m, rfl⟩
          go_wp2
          go_ret2
          exact first_no Hno.out (pw_below_drewN hb6 m)
    · have he2b : (e2 != 0) = true := by simpa using he2
      have hno : ¬ frameL k (recL b) <+: b := fun h => he2 (Hiff.out.2 h).1.2
      have Hno := Lib.hid hno
      clear hno he2
      go_wp2
      go_ret2
      exact first_no Hno.out hb4
  · have he1b : (e1 != 0) = true := by simpa using he1
    have hno : ¬ frameL k (recL b) <+: b := fun h => he1 (Hiff.out.2 h).1.1
    have Hno := Lib.hid hno
    clear hno he1
    go_wp2
    go_ret2
    exact first_no Hno.out hb4

/-- The end of the last record. -/
def endL (l : List (List Int × Int)) : Int := (l.getLast?.map Prod.snd).getD 0
theorem endL_snoc (l : List (List Int × Int)) (r : List Int × Int) : endL (l ++ [r]) = r.2 := by simp [endL]

/-- A byte slice that came in, as an element. -/
abbrev KF (w : World) : Kd (List Int) := Kd.fixed (Kd.slice 5 (Kd.int .u8)) w

theorem infoRow : (Try.prog.info? 23).map (fun i => (i.zero, i.size, i.bytes)) = some (some (.slice none 0 0), 1, 24) := by kernel_rfl

theorem first_calls_n (k : Int) (hk : -9223372036854775808 ≤ k ∧ k ≤ 9223372036854775807) (A : Option Addr) (cap n : Nat) (b : List Int) (hn : b.length = n) (hb255 : ∀ x ∈ b, 0 ≤ x ∧ x ≤ 255) (hl : b.length ≤ 1099511627776) (hcap : b.length ≤ cap) (wB w : World) (hwB : Below wB.heap.size wB w) (hC : Kd.C (Kd.int .u8) wB A b.length b) :
    Calls Try.prog 37 #[.int .i64 k, .slice A n cap] w (FirstSays wB w k b) := by
  subst hn
  exact first_calls k hk A cap b hb255 hl hcap wB w hwB hC

set_option maxRecDepth 100000 in
set_option maxHeartbeats 1000000 in
theorem rscan_calls (A : Option Addr) (cap : Nat) (b : List Int) (hb255 : ∀ x ∈ b, 0 ≤ x ∧ x ≤ 255) (hlen : b.length ≤ 1099511627776) (hcap : b.length ≤ cap) (w : World) (hC : Kd.C (Kd.int .u8) w A b.length b) :
    Calls Try.prog 13 #[.slice A b.length cap] w fun e w' => ∃ v, e = .returned (.tuple #[v, .int .i64 (endL (scanR (b.length + 1) 0 0 b))]) ∧ (KF w).R 23 w' w.heap.size (fun _ => True) v ((scanR (b.length + 1) 0 0 b).map Prod.fst) ∧ Below w.heap.size w w' := by
  obtain ⟨res, hres⟩ : ∃ res, scanR (b.length + 1) 0 0 b = res := ⟨_, rfl⟩
  rw [hres]
  have HC := Lib.hid hC
  have HRES := Lib.hid hres
  clear hC hres
  go_enter Try.func13, Try.ntmps13
  go_wp2
  go_loopw [4, 5] (fun out n wr => ∃ (p f : Nat) (pre : List (List Int × Int)), n = .int .i64 p ∧ p ≤ b.length ∧ pre.length ≤ p ∧ b.length - p < f ∧ Hid (res = pre ++ scanR f pre.length p b) ∧ Hid (endL pre = (p : Int)) ∧ Hid ((KF w).R 23 wr w.heap.size (fun _ => True) out (pre.map Prod.fst)) ∧ Below w.heap.size w wr)
    (fun _ n _ => b.length - (intOf n).toNat)
  case atStart => exact ⟨0, b.length + 1, [], rfl, Nat.zero_le _, Nat.le_refl _, by omega, Lib.hid HRES.out.symm, Lib.hid rfl, Lib.hid (Kd.R_nil _ _ _ _ _), Below.refl _ _⟩
  case round =>
    obtain ⟨p, f, pre, rfl, hp, hpp, hf, hs, he, hR, hB⟩ := hrel
    obtain ⟨Ao, co, rfl, hoc, _⟩ := Kd.R_reads hR.out
    have hml : (pre.map Prod.fst).length = pre.length := List.length_map _
    rw [hml] at hoc hR ⊢
    have HML := Lib.hid hml
    clear hml
    by_cases hlt : p < b.length
    · obtain ⟨f, rfl⟩ : ∃ f', f = f' + 1 := ⟨f - 1, by omega⟩
      obtain ⟨A', hcut, hC', hcap'⟩ := drop_run A cap b p hp hcap w HC.out
      have hb' : ∀ x ∈ b.drop p, 0 ≤ x ∧ x ≤ 255 := fun x hx => hb255 x (List.mem_of_mem_drop hx)
      have hl' : (b.drop p).length = b.length - p := List.length_drop
      have hbad := scanR_bad (f + 1) pre.length p b
      have hgood := scanR_good f pre.length p b hlt
      have hF := first_calls_n (pre.length : Int) (by omega) A' (cap - p) (b.length - p) (b.drop p) hl' hb' (by omega) hcap' w wr hB hC'
      unfold FirstSays at hF
      have hxb := recL_byte _ hb'
      have hxl := recL_len (b.drop p)
      generalize recL (b.drop p) = x at hbad hgood hF hxb hxl
      have hfp := frameL_pos pre.length x
      have hFR := fun A cap w h => Ref07.frame_calls pre.length (by omega) A cap x hxb (by omega) w h
      have HP : frameL pre.length x <+: b.drop p → (frameL pre.length x).length ≤ b.length - p := fun h => by have := h.length_le; omega
      generalize frameL pre.length x = fr at hbad hgood hF hfp hFR HP
      generalize b.drop p = b' at hb' hl' hC' hcap' hxl hbad hgood hF HP
      have Hbad := Lib.hid hbad
      have Hgood := Lib.hid hgood
      have HF := Lib.hid hF
      have HFR := Lib.hid hFR
      clear hbad hgood hF hC' hFR
      by_cases hyes : fr <+: b'
      · have hPl := HP hyes
        have hd := decide_eq_true hyes
        rw [hd] at HF
        have hg := Hgood.out hyes
        have HG := Lib.hid hg
        have HY := Lib.hid hyes
        clear hg hd HP hyes Hbad Hgood
        go_wp2_with fail
        refine HF.out.mono ?_
        rintro e w1 ⟨v1, rfl, hv, hB1⟩
        obtain ⟨Ax, cx, rfl, hxc, hCx⟩ := hv HY.out
        have hB2 : Below w.heap.size w w1 := hB.trans (hB1.mono hB.size)
        have HCx := Lib.hid hCx
        clear hv hCx
        go_wp2_with fail
        refine (HFR.out Ax cx w1 (Kd.C_below HCx.out hB2)).mono ?_
        rintro e w2 ⟨v2, rfl, hR2, hB3⟩
        obtain ⟨Af, cf, rfl, _, _⟩ := Kd.R_reads hR2
        clear hR2
        have hB4 : Below w.heap.size w w2 := hB2.trans (hB3.mono hB2.size)
        have HR2 := Lib.hid (Kd.R_below (Kd.R_below hR.out hB1) hB3)
        go_wp2_with (at_builtin; refine Kd.R_append (KF w) (w0 := w) w.heap.size rfl _ _ 27 23 (.slice none 0 0) 24 rfl Try.underlying27 infoRow rfl Nat.one_pos (by decide) (.slice Ao pre.length co) (pre.map Prod.fst) x [.slice Ax x.length cx] (fun _ => True) (fun _ => False) rfl rfl ⟨Ax, cx, rfl, hxc, HCx.out⟩ (fun _ h => h.elim) (fun _ _ => trivial) HR2.out hB4 hB4.size (by rw [HML.out]; omega) ?_; intro v3 w3 ho hb hg _)
        go_roundw
        case rel => exact ⟨p + fr.length, f, pre ++ [(x, ((p + fr.length : Nat) : Int))], (by first | rfl | simp), by omega, by simp; omega, by omega, Lib.hid (by rw [hs.out, HG.out]; simp), Lib.hid (endL_snoc _ _), Lib.hid (by rw [List.map_append]; exact ho), hb⟩
        case measure => simp [intOf]; omega
      · have hd := decide_eq_false hyes
        rw [hd] at HF
        have hbd := Hbad.out hyes
        have HN := Lib.hid (hs.out.trans (by rw [hbd, List.append_nil]))
        clear hbd hd HP hyes Hbad Hgood
        go_wp2_with fail
        refine HF.out.mono ?_
        rintro e w1 ⟨v1, rfl, _, hB1⟩
        have hB2 : Below w.heap.size w w1 := hB.trans (hB1.mono hB.size)
        go_wp2
        go_ret2
        rw [HN.out]
        exact ⟨_, congrArg (fun z => Ending.returned (Value.tuple #[_, Value.int .i64 z])) he.out.symm, Kd.R_below hR.out hB1, hB2⟩
    · have hn := scanR_end f pre.length p b hlt
      have HN := Lib.hid (hs.out.trans (by rw [hn, List.append_nil]))
      clear hn
      go_wp2
      go_ret2
      rw [HN.out]
      exact ⟨_, congrArg (fun z => Ending.returned (Value.tuple #[_, Value.int .i64 z])) he.out.symm, hR.out, hB⟩

set_option maxHeartbeats 1000000 in
theorem around_calls (n m : Int) (hn : -9223372036854775808 ≤ n ∧ n ≤ 9223372036854775807) (hm : 1 ≤ m ∧ m ≤ 9223372036854775807) (w : World) :
    Calls Try.prog 16 #[.int .i64 n, .int .i64 m] w fun e w' => ∃ r : Nat, e = .returned (.int .i64 r) ∧ (r : Int) < m ∧ w = w' := by
  by_cases h : n < 0
  · have hr : ∃ r : Nat, -Int.tmod (n + 1) m = r ∧ (r : Int) < m := by
      rw [← Int.neg_tmod, Int.tmod_eq_emod_of_nonneg (by omega)]
      have h1 := Int.emod_nonneg (-(n + 1)) (show m ≠ 0 by omega)
      have h2 := Int.emod_lt_of_pos (-(n + 1)) (show 0 < m by omega)
      exact ⟨((-(n + 1)) % m).toNat, by omega, by omega⟩
    obtain ⟨r, hr, hl⟩ := hr
    have HR := Lib.hid hr
    have hm0 : (m == 0) = false := by simp; omega
    clear hr
    go_enter Try.func16, Try.ntmps16
    go_wp2
    all_goals try (exfalso; omega)
    go_ret
    exact ⟨r, congrArg (fun z => Ending.returned (Value.int .i64 z)) HR.out, hl, rfl⟩
  · have hr : ∃ r : Nat, n % m = r ∧ (r : Int) < m := by
      have h1 := Int.emod_nonneg n (show m ≠ 0 by omega)
      have h2 := Int.emod_lt_of_pos n (show 0 < m by omega)
      exact ⟨(n % m).toNat, by omega, by omega⟩
    obtain ⟨r, hr, hl⟩ := hr
    have HR := Lib.hid hr
    have hm0 : (m == 0) = false := by simp; omega
    clear hr
    go_enter Try.func16, Try.ntmps16
    go_wp2
    all_goals try (exfalso; omega)
    go_ret
    exact ⟨r, congrArg (fun z => Ending.returned (Value.int .i64 z)) HR.out, hl, rfl⟩

/-- A list of byte slices, as it is read. -/
abbrev KL : Kd (List Int) := Kd.slice 5 (Kd.int .u8)

theorem kl_at {w : World} {A : Option Addr} {n : Nat} {xs : List (List Int)} (h : KL.C w A n xs) (k : Nat) (hk : k < n) (hx : k < xs.length) :
    ∃ ad Ax cx, A = some ad ∧ w.cell? (ad.add k) = some (.slice Ax xs[k].length cx) ∧ xs[k].length ≤ cx ∧ Kd.C (Kd.int .u8) w Ax xs[k].length xs[k] := by
  obtain ⟨ad, c, rfl, _, hK, hc⟩ := Kd.C_get h [] (k : Int) (by omega) (by omega)
  rw [Int.toNat_natCast] at hK hc
  have e : xs.getD k [] = xs[k] := by simp [List.getD_eq_getElem?_getD, hx]
  rw [e] at hK
  obtain ⟨Ax, cx, rfl, hl, hC⟩ := hK
  have := hc 0 _ rfl
  exact ⟨ad, Ax, cx, rfl, by simpa [KL, Kd.slice] using this, hl, hC⟩

theorem list_take_succ_eq {α : Type} {a b : List α} {i : Nat} (h1 : i < a.length) (h2 : i < b.length) (h : a[i] = b[i]) (ht : a.take i = b.take i) : a.take (i + 1) = b.take (i + 1) := by
  rw [List.take_succ_eq_append_getElem h1, List.take_succ_eq_append_getElem h2, ht, h]

set_option maxRecDepth 100000 in
set_option maxHeartbeats 1000000 in
theorem sameLists_calls (A1 A2 : Option Addr) (c1 c2 : Nat) (a b : List (List Int)) (hl : a.length ≤ 140737488355328) (hin : ∀ x ∈ a, x.length ≤ 140737488355328) (w : World) (hC1 : KL.C w A1 a.length a) (hC2 : KL.C w A2 b.length b) :
    Calls Try.prog 14 #[.slice A1 a.length c1, .slice A2 b.length c2] w fun e w' => e = .returned (.bool (decide (a = b))) ∧ Below w.heap.size w w' := by
  have H1 := Lib.hid hC1
  have H2 := Lib.hid hC2
  clear hC1 hC2
  by_cases hab : a.length = b.length
  · have hne : ((a.length : Int) != (b.length : Int)) = false := by simp [hab]
    have Hab := Lib.hid hab
    have hab1 : a.length ≤ b.length := by omega
    have hab2 : b.length ≤ a.length := by omega
    clear hab
    go_enter Try.func14, Try.ntmps14
    go_wp2
    go_loopw [5] (fun i wr => ∃ k : Nat, i = .int .i64 k ∧ k ≤ a.length ∧ Hid (a.take k = b.take k) ∧ Below w.heap.size w wr) (fun i _ => a.length - (intOf i).toNat)
    case atStart => exact ⟨0, rfl, Nat.zero_le _, Lib.hid rfl, Below.refl _ _⟩
    case round =>
      obtain ⟨k, rfl, hk, ht, hB⟩ := hrel
      by_cases hlt : k < a.length
      · have hlt2 : k < b.length := by omega
        obtain ⟨ad1, Ax, cx, e1, hc1, hxc, hCx⟩ := kl_at (Kd.C_below H1.out hB) k hlt hlt
        obtain ⟨ad2, Ay, cy, e2, hc2, hyc, hCy⟩ := kl_at (Kd.C_below H2.out hB) k hlt2 hlt2
        subst e1 e2
        have hxl := hin _ (List.getElem_mem hlt)
        have hts := fun h => list_take_succ_eq hlt hlt2 h ht.out
        have hnn : a[k] ≠ b[k] → a ≠ b := fun h e => by subst e; exact h rfl
        generalize a[k] = x at hc1 hxc hCx hxl hts hnn
        generalize b[k] = y at hc2 hyc hCy hts hnn
        have Hts := Lib.hid hts
        have Hnn := Lib.hid hnn
        have HS := Lib.hid (fun m => sameBytes_calls Ax Ay cx cy x y hxl (wr.drewN m) (Kd.C_below hCx (below_of_drawn m)) (Kd.C_below hCy (below_of_drawn m)))
        clear hts hnn hCx hCy
        have hk0 : (0 : Int) ≤ (k : Int) := by omega
        have hka : (k : Int) < (a.length : Int) := by omega
        have hkb : (k : Int) < (b.length : Int) := by omega
        by_cases hxy : x = y
        · have hd := decide_eq_true hxy
          rw [hd] at HS
          have HXY := Lib.hid hxy
          clear hxy hd
          go_wp2_with fail
          go_quiet (first | (go_at_call 8; refine (HS.out _).mono ?_; rintro e w' ⟨rfl, n, rfl⟩; exact ⟨rfl, _, World.drewN_drewN _ _ _⟩))
          go_wp2
          go_roundw
          case rel => exact ⟨k + 1, by simp, by omega, Lib.hid (Hts.out HXY.out), pw_below_drewN hB _⟩
          case measure => simp [intOf]; omega
        · have hd := decide_eq_false hxy
          rw [hd] at HS
          have hdd : decide (a = b) = false := decide_eq_false (Hnn.out hxy)
          have HD := Lib.hid hdd
          clear hxy hd hdd
          go_wp2_with fail
          go_quiet (first | (go_at_call 8; refine (HS.out _).mono ?_; rintro e w' ⟨rfl, n, rfl⟩; exact ⟨rfl, _, World.drewN_drewN _ _ _⟩))
          go_wp2
          go_ret
          exact ⟨congrArg (fun z => Ending.returned (Value.bool z)) HD.out.symm, pw_below_drewN hB _⟩
      · obtain rfl : k = a.length := by omega
        have hd : decide (a = b) = true := by
          have := ht.out
          rw [List.take_length, Hab.out, List.take_length] at this
          exact decide_eq_true this
        have Hd := Lib.hid hd
        clear hd
        go_wp2
        go_ret
        exact ⟨congrArg (fun z => Ending.returned (Value.bool z)) Hd.out.symm, hB⟩
  · have hne : ((a.length : Int) != (b.length : Int)) = true := by simp; omega
    have hd : decide (a = b) = false := decide_eq_false (fun e => hab (by rw [e]))
    rw [hd]
    clear hd hab
    go_enter Try.func14, Try.ntmps14
    go_wp2
    go_ret
    exact ⟨rfl, Below.refl _ _⟩

end Go.Proofs.Ytbihjkpbmebpbaa.Ref07
