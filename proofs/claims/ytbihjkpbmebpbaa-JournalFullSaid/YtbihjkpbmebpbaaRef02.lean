/- The reference functions of package refuterref02: what they return. -/
import Derived.Test.YtbihjkpbmebpbaaScan
import Derived.Test.YtbihjkpbmebpbaaRef01
namespace Go.Proofs.Ytbihjkpbmebpbaa.Ref02
open Go.RowKit Go.Proofs Go.Proofs.Ytbihjkpbmebpbaa.Ma Go.Proofs.Ytbihjkpbmebpbaa.Wire Go.Proofs.Ytbihjkpbmebpbaa.Rdr Go.Proofs.Ytbihjkpbmebpbaa.Scan Go.Proofs.YtbihjkpbmebpbaaW.PrintWords Go.Proofs.YtbihjkpbmebpbaaW.PrintLast

theorem add128 (m : Nat) : 128 + (m : Int) % 128 = ((m % 128 + 128 : Nat) : Int) := by omega

set_option maxRecDepth 100000 in
set_option maxHeartbeats 1000000 in
theorem uint_calls (n0 : Nat) (hn0 : n0 < 18446744073709551616) (w : World) :
    Calls Try.prog 34 #[.int .u64 n0] w fun e w' => ∃ v, e = .returned v ∧ Kd.R (Kd.int .u8) 5 w' w.heap.size (fun _ => True) v (vint n0) ∧ Below w.heap.size w w' := by
  have hvl := vint_length n0 hn0
  go_enter Try.func34, Try.ntmps34
  go_wp2
  go_loopw [0, 3] (fun n v wr => ∃ (m : Nat) (pre : List Int), n = .int .u64 m ∧ m ≤ n0 ∧ wr.ownsRow w.heap.size 5 1 v pre.length (nums .u8 pre) ∧ Hid (pre ++ vint m = vint n0) ∧ Below w.heap.size w wr) (fun n _ _ => (intOf n).toNat)
  case atStart => exact ⟨n0, [], rfl, Nat.le_refl _, own_nil _ _ _ _, Lib.hid (by simp), Below.refl _ _⟩
  case round =>
    obtain ⟨m, pre, rfl, hm, ho, hp, hB⟩ := hrel
    have hsz := hB.size
    have hpl : pre.length + (vint m).length ≤ 10 := by rw [← List.length_append, hp.out]; exact hvl
    have hvp := vint_pos m
    by_cases hs : 127 < m
    · have hadd := add128 m
      have hvb := vint_big m (by omega)
      have Hvb := Lib.hid hvb
      have HW := Lib.hid hadd
      clear hvb hadd
      go_wp2_with (at_builtin; refine print_append_num (w0 := wr) w.heap.size rfl _ _ 23 5 .u8 1 rfl Try.underlying23 info8 (by decide) u3 pre _ rfl rfl ho (Below.refl _ _) hsz (by omega) ?_; intro v1 w1 ho1 _ hg1 _)
      go_roundw
      case rel => exact ⟨m / 128, pre ++ [((m % 128 + 128 : Nat) : Int)], by simp, by omega, by rw [← HW.out]; exact ho1, Lib.hid (by rw [List.append_assoc, List.singleton_append, ← Hvb.out, hp.out]), hB.grown hg1 hB.size (own_base ho)⟩
      case measure => simp [intOf]; omega
    · have hvb := vint_small m (by omega)
      have Hvb := Lib.hid hvb
      clear hvb
      go_wp2_with (at_builtin; refine print_append_num (w0 := wr) w.heap.size rfl _ _ 23 5 .u8 1 rfl Try.underlying23 info8 (by decide) u3 pre _ rfl rfl ho (Below.refl _ _) hsz (by omega) ?_; intro v1 w1 ho1 _ hg1 _)
      go_ret
      have hR : Kd.R (Kd.int .u8) 5 w1 w.heap.size (fun _ => True) v1 (pre ++ [(m : Int)]) := Kd.R_of_own ho1 (fun _ _ => trivial)
      rw [← hp.out, Hvb.out]
      exact ⟨_, rfl, hR, hB.grown hg1 hB.size (own_base ho)⟩

set_option maxRecDepth 100000 in
set_option maxHeartbeats 1000000 in
theorem raw_calls (A : Option Addr) (cap : Nat) (b : List Int) (hl : b.length ≤ 70368744177664) (w : World) (hC : Kd.C (Kd.int .u8) w A b.length b) :
    Calls Try.prog 33 #[.slice A b.length cap] w fun e w' => ∃ v, e = .returned v ∧ Kd.R (Kd.int .u8) 5 w' w.heap.size (fun _ => True) v (rawL b) ∧ Below w.heap.size w w' := by
  have hvl := vint_length b.length (by omega)
  have HU := Lib.hid (uint_calls b.length (by omega) w)
  have HC := Lib.hid hC
  unfold rawL
  generalize vint b.length = pre at hvl HU ⊢
  clear hC
  go_enter Try.func33, Try.ntmps33
  go_wp2_with (first
    | (go_at_call 34; refine HU.out.mono ?_; rintro e w1 ⟨v, rfl, hR, hB⟩; have hb2 := hB.size; obtain ⟨A1, c1, rfl, hcc, _⟩ := Kd.R_reads hR)
    | (at_builtin; refine Kd.R_append_rows (Kd.int .u8) (Rr := (Kd.int .u8).K w) (w0 := w) w.heap.size rfl _ _ 23 5 (.int .u8 0) 1 rfl Try.underlying23 info8 rfl (by decide) (by decide) _ pre b A b.length cap (fun _ => True) (fun _ => False) rfl rfl hR (Kd.C_below HC.out hB) (fun _ _ h => h) (fun _ h => h.elim) (fun _ _ => trivial) hB hB.size (by simp; omega) ?_; intro v1 w1 ho hb hg _))
  go_ret
  exact ⟨_, rfl, by simpa using ho, hb⟩

theorem zigzag_ref (n : Int) (hn : -9223372036854775808 ≤ n ∧ n ≤ 9223372036854775807) :
    (n < 0 → 2 * -(n + 1) + 1 = (zz n : Int)) ∧ (¬ n < 0 → 2 * n = (zz n : Int)) := by
  constructor
  · intro h
    unfold zz
    rw [if_pos h]
    omega
  · intro h
    unfold zz
    rw [if_neg h]
    omega

set_option maxHeartbeats 1000000 in
theorem zigzag_calls (n : Int) (hn : -9223372036854775808 ≤ n ∧ n ≤ 9223372036854775807) (w : World) :
    Calls Try.prog 67 #[.int .i64 n] w fun e w' => e = .returned (.int .u64 (zz n)) ∧ w = w' := by
  obtain ⟨h1, h2⟩ := zigzag_ref n hn
  by_cases h : n < 0
  · have H1 := Lib.hid (h1 h)
    clear h1 h2
    go_enter Try.func67, Try.ntmps67
    go_wp2
    go_ret
    exact ⟨congrArg (fun z => Ending.returned (Value.int .u64 z)) H1.out, rfl⟩
  · have H1 := Lib.hid (h2 h)
    clear h1 h2
    go_enter Try.func67, Try.ntmps67
    go_wp2
    go_ret
    exact ⟨congrArg (fun z => Ending.returned (Value.int .u64 z)) H1.out, rfl⟩

set_option maxHeartbeats 1000000 in
theorem int_calls (n : Int) (hn : -9223372036854775808 ≤ n ∧ n ≤ 9223372036854775807) (w : World) :
    Calls Try.prog 52 #[.int .i64 n] w fun e w' => ∃ v, e = .returned v ∧ Kd.R (Kd.int .u8) 5 w' w.heap.size (fun _ => True) v (vint (zz n)) ∧ Below w.heap.size w w' := by
  go_enter Try.func52, Try.ntmps52
  go_wp2_with (first
    | (go_at_call 67; refine (zigzag_calls n hn _).mono ?_; rintro e w' ⟨rfl, rfl⟩)
    | (go_at_call 34; refine (uint_calls (zz n) (zz_lt n hn) _).mono ?_; rintro e w' ⟨v, rfl, hR, hB⟩))
  go_ret
  exact ⟨_, rfl, hR, hB⟩

theorem back_ref (z : Nat) :
    (z % 2 = 1 → -((z : Int) / 2) - 1 = unzz z) ∧ (¬ z % 2 = 1 → (z : Int) / 2 = unzz z) := by
  constructor
  · intro h
    unfold unzz
    rw [if_pos h]
    omega
  · intro h
    unfold unzz
    rw [if_neg h]
    omega

set_option maxHeartbeats 1000000 in
theorem back_calls (z : Nat) (hz : z < 18446744073709551616) (w : World) :
    Calls Try.prog 72 #[.int .u64 z] w fun e w' => e = .returned (.int .i64 (unzz z)) ∧ w = w' := by
  obtain ⟨h1, h2⟩ := back_ref z
  by_cases h : z % 2 = 1
  · have H1 := Lib.hid (h1 h)
    have hb : (((z : Int) % 2) == 1) = true := by simp; omega
    clear h1 h2
    go_enter Try.func72, Try.ntmps72
    go_wp2
    go_ret
    exact ⟨congrArg (fun z => Ending.returned (Value.int .i64 z)) H1.out, rfl⟩
  · have H1 := Lib.hid (h2 h)
    have hb : (((z : Int) % 2) == 1) = false := by simp; omega
    clear h1 h2
    go_enter Try.func72, Try.ntmps72
    go_wp2
    go_ret
    exact ⟨congrArg (fun z => Ending.returned (Value.int .i64 z)) H1.out, rfl⟩

/-- Block B is a reader of the reference: the bytes l are left (unless there is an error), e is the error; the bytes lie in the world wB. -/
def Rf (wB W : World) (B : Nat) (l : List Int) (e : Int) : Prop := ∃ A cap l2, W.heap[B]? = some (.cells #[.slice A l2.length cap, .int .i64 e] 97 (0, 0)) ∧ l2.length ≤ cap ∧ wB.heap.size ≤ B ∧ Below wB.heap.size wB W ∧ Kd.C (Kd.int .u8) wB A l2.length l2 ∧ (e = 0 → l2 = l)

theorem Rf.lt {wB W : World} {B : Nat} {l : List Int} {e : Int} (h : Rf wB W B l e) : B < W.heap.size := by obtain ⟨A, c, l2, hb, _⟩ := h; exact lt_of hb
theorem Rf.below {wB W W' : World} {B : Nat} {l : List Int} {e : Int} (h : Rf wB W B l e) (hb : Below W.heap.size W W') : Rf wB W' B l e := by
  obtain ⟨A, c, l2, h1, h2, h3, h4, h5, h6⟩ := h
  exact ⟨A, c, l2, (hb.block B (lt_of h1)).trans h1, h2, h3, h4.trans (hb.mono h4.size), h5, h6⟩
theorem Rf.kx {wB W W' : World} {B B' base : Nat} {l : List Int} {e : Int} (h : Rf wB W B l e) (hk : KX B' base W W') (hne : B ≠ B') (hs : W.heap.size ≤ base) (hB' : wB.heap.size ≤ B') : Rf wB W' B l e := by
  obtain ⟨A, c, l2, h1, h2, h3, h4, h5, h6⟩ := h
  have := lt_of h1
  exact ⟨A, c, l2, (hk.block B (by omega) hne).trans h1, h2, h3, h4.trans (hk.below (by have := h4.size; omega) (by omega)), h5, h6⟩

theorem rf_unit (mn x k : Nat) (hm : mn < 128 ^ k) (hk : k ≤ 9) (h9 : k = 9 → x ≤ 1) (U : Int) (hU : U = 128 ^ k) :
    IntKind.u64.wrap ((mn : Int) + IntKind.u64.wrap ((x : Int) % 128 * U)) = ((mn + x % 128 * 128 ^ k : Nat) : Int) := by
  have hf := rd_fits mn x k hm hk h9
  have e : (x : Int) % 128 * U = ((x % 128 * 128 ^ k : Nat) : Int) := by rw [hU]; push_cast; rfl
  rw [e, IntKind.wrap_u64, IntKind.wrap_u64]
  omega

set_option maxRecDepth 100000 in
set_option maxHeartbeats 1000000 in
theorem ruint_calls (wB : World) (B : Nat) (l : List Int) (e : Int) (hb255 : ∀ x ∈ l, 0 ≤ x ∧ x ≤ 255) (w : World) (h : Rf wB w B l e) :
    Calls Try.prog 73 #[.pointer (some ⟨B, 0, none⟩)] w fun ee w' => ee = .returned (.int .u64 ((rdUint l e).1 : Nat)) ∧ Rf wB w' B (rdUint l e).2.1 (rdUint l e).2.2 ∧ KX B w.heap.size w w' := by
  obtain ⟨A, cap, l2, h1, h2, h3, h4, h5, h6⟩ := h
  have c0 := cell_of h1 0
  have c1 := cell_of h1 1
  have f0 := frozen_of h1 0
  have f1 := frozen_of h1 1
  by_cases he : e = 0
  · obtain rfl := h6 he
    subst he
    clear h6
    obtain ⟨res, hres⟩ : ∃ res, rdUint l2 0 = res := ⟨_, rfl⟩
    rw [hres]
    have hres : res = rdU 0 0 l2 := by rw [← hres]; rfl
    have hm2 := Kd.C_max h5
    go_enter Try.func73, Try.ntmps73
    go_wp2
    go_loopw [3, 4, 5] (fun n u i wr => ∃ (k mn : Nat) (U : Int), n = .int .u64 mn ∧ u = .int .u64 U ∧ i = .int .i64 k ∧ k ≤ 9 ∧ k ≤ l2.length ∧ mn < 128 ^ k ∧ Hid (U = 128 ^ k) ∧ Hid (res = rdU k mn (l2.drop k)) ∧ wr = w) (fun _ _ i _ => 11 - (intOf i).toNat)
    case atStart => exact ⟨0, 0, 1, rfl, rfl, rfl, by omega, by omega, by decide, Lib.hid rfl, Lib.hid hres, rfl⟩
    case round =>
      obtain ⟨k, mn, U, rfl, rfl, rfl, hk9, hkl, hmn, hU, hrs, rfl⟩ := hrel
      by_cases hlt : k < l2.length
      · obtain ⟨ad, ea, hcl⟩ := Kd.at_int (Kd.C_below h5 h4) (k : Int) (by omega) (by omega)
        subst ea
        have er : rd l2 k = l2[k] := by unfold rd; simp [hlt]
        rw [Int.toNat_natCast, er] at hcl
        have hx := hb255 l2[k] (List.getElem_mem hlt)
        have hd : l2.drop k = l2[k] :: l2.drop (k + 1) := List.drop_eq_getElem_cons hlt
        have hrs2 := hrs.out
        rw [hd] at hrs2
        clear hd er hres
        generalize l2[k] = y at hcl hx hrs2
        obtain ⟨xn, rfl⟩ := Int.eq_ofNat_of_zero_le hx.1
        have hx255 : xn < 256 := by omega
        have hx0 : (((xn : Int) == 0) = true ∧ xn ≤ 0) ∨ (((xn : Int) == 0) = false ∧ 0 < xn) := by
          rcases Nat.eq_zero_or_pos xn with h | h
          · exact .inl ⟨by simp [h], by omega⟩
          · exact .inr ⟨by simp; omega, h⟩
        have hk0 : (((k : Int) == 9) = true ∧ 9 ≤ k) ∨ (((k : Int) == 9) = false ∧ k < 9) := by
          by_cases h : k = 9
          · exact .inl ⟨by simp [h], by omega⟩
          · exact .inr ⟨by simp; omega, by omega⟩
        clear hx
        rcases hx0 with ⟨hxb, hx0⟩ | ⟨hxb, hx0⟩
        all_goals rcases hk0 with ⟨hkb, hk0⟩ | ⟨hkb, hk0⟩
        all_goals
          by_cases hP : (k = 9 ∧ (xn : Int) > 1) ∨ (k > 0 ∧ (xn : Int) = 0)
          · have Hrs := Lib.hid (hrs2.trans (rdU_bad k mn _ _ hP))
            clear hrs2
            have hs := heap_set h1 1 (.int .i64 2)
            go_wp2
            all_goals
              first
              | (exfalso; omega)
              | (go_ret
                 rw [Hrs.out]
                 exact ⟨rfl, ⟨_, cap, l2, hs, h2, h3, h4.setCell (p := ⟨B, 1, none⟩) h3 _, h5, by simp⟩, kx_set _ _ _ _ _⟩)
          · have h9 : k = 9 → xn ≤ 1 := by omega
            have Hor := Lib.hid (rf_unit mn xn k hmn hk9 h9 U hU.out)
            by_cases hlo : xn < 128
            · have Hrs := Lib.hid (hrs2.trans (rdU_end k mn xn _ hP hlo))
              obtain ⟨A', hcut, hC', hc'⟩ := drop_run (some ad) cap l2 (k + 1) (by omega) h2 wB h5
              have hcut' : ∀ W : World, (Instr.slice 23 (.slice (some ad) l2.length cap) (some (.int .i64 ((k : Int) + 1))) none none).run Try.prog W = .ok (.slice A' (l2.length - (k + 1)) (cap - (k + 1))) W := hcut
              have hs := heap_set h1 0 (.slice A' (l2.length - (k + 1)) (cap - (k + 1)))
              have hln : (l2.drop (k + 1)).length = l2.length - (k + 1) := List.length_drop
              have HS := Lib.hid hs
              clear hrs2 hcut hs
              go_wp2
              all_goals
                first
                | (exfalso; omega)
                | (go_ret
                   rw [Hrs.out]
                   exact ⟨congrArg (fun z => Ending.returned (Value.int .u64 z)) Hor.out, ⟨A', cap - (k + 1), l2.drop (k + 1), by rw [hln]; exact HS.out, hc', h3, h4.setCell (p := ⟨B, 0, none⟩) h3 _, hC', fun _ => rfl⟩, kx_set _ _ _ _ _⟩)
            · have Hrs := Lib.hid (hrs2.trans (rdU_more k mn xn _ hP (by omega)))
              clear hrs2
              have hU128 : IntKind.u64.wrap (U * 128) = U * 128 ∧ U * 128 = 128 ^ (k + 1) := by
                have e1 : U * 128 = ((128 ^ (k + 1) : Nat) : Int) := by rw [hU.out, Nat.pow_succ]; push_cast; rfl
                have := pow128 (k + 1) (by omega)
                rw [e1]
                refine ⟨?_, by push_cast; rfl⟩
                rw [IntKind.wrap_u64]
                omega
              have hw := hU128.1
              have HU2 := Lib.hid hU128.2
              clear hU128
              go_wp2
              all_goals
                first
                | (exfalso; omega)
                | (go_roundw
                   case rel => exact ⟨k + 1, _, _, congrArg (Value.int .u64) Hor.out, rfl, (by first | rfl | (simp; done) | (simp; omega)), by omega, by omega, by rw [Nat.pow_succ]; have := Nat.mul_le_mul_right (128 ^ k) (show xn % 128 ≤ 127 by omega); omega, Lib.hid HU2.out, Lib.hid Hrs.out, trivial⟩
                   case measure => simp [intOf]; omega)
      · have hd : l2.drop k = [] := List.drop_eq_nil_of_le (by omega)
        have hrs2 : res = (0, [], 3) := by rw [hrs.out, hd]; rfl
        have Hrs := Lib.hid hrs2
        clear hrs2 hd hres
        have hs := heap_set h1 1 (.int .i64 3)
        go_wp2
        go_ret
        rw [Hrs.out]
        exact ⟨rfl, ⟨_, cap, l2, hs, h2, h3, h4.setCell (p := ⟨B, 1, none⟩) h3 _, h5, by simp⟩, kx_set _ _ _ _ _⟩
  · have he1 : (e == 0) = false := by simpa using he
    have hrs : rdUint l e = (0, l, e) := by unfold rdUint; rw [if_neg he]
    rw [hrs]
    clear hrs
    go_enter Try.func73, Try.ntmps73
    go_wp2
    go_loopw [3, 4, 5] (fun n u i wr => n = .int .u64 0 ∧ u = .int .u64 1 ∧ i = .int .i64 0 ∧ wr = w) (fun _ _ i _ => 0)
    case atStart => exact ⟨rfl, rfl, rfl, rfl⟩
    case round =>
      obtain ⟨rfl, rfl, rfl, rfl⟩ := hrel
      go_wp2
      go_ret
      exact ⟨rfl, ⟨A, cap, l2, h1, h2, h3, h4, h5, fun hh => absurd hh he⟩, KX.refl _ _ _⟩

/-- What the reference reads as a length: the length, the bytes and the error behind it. -/
def rdLen (l : List Int) (e : Int) : Nat × List Int × Int :=
  if (rdUint l e).2.2 ≠ 0 then (0, (rdUint l e).2.1, (rdUint l e).2.2)
  else if (rdUint l e).1 > (rdUint l e).2.1.length then (0, (rdUint l e).2.1, 3)
  else ((rdUint l e).1, (rdUint l e).2.1, 0)

set_option maxRecDepth 100000 in
set_option maxHeartbeats 1000000 in
theorem length_calls (wB : World) (B : Nat) (l : List Int) (e : Int) (hb255 : ∀ x ∈ l, 0 ≤ x ∧ x ≤ 255) (w : World) (h : Rf wB w B l e) :
    Calls Try.prog 71 #[.pointer (some ⟨B, 0, none⟩)] w fun ee w' => ee = .returned (.int .i64 ((rdLen l e).1 : Nat)) ∧ Rf wB w' B (rdLen l e).2.1 (rdLen l e).2.2 ∧ KX B w.heap.size w w' := by
  have hlt := rdUint_lt l e hb255
  have hU := ruint_calls wB B l e hb255 w h
  unfold rdLen
  obtain ⟨n, l1, e1, hq⟩ : ∃ n l1 e1, rdUint l e = (n, l1, e1) := ⟨_, _, _, rfl⟩
  rw [hq] at hlt hU ⊢
  simp only at hlt hU ⊢
  have HU := Lib.hid hU
  clear hU hq h
  by_cases he1 : e1 ≠ 0
  · rw [if_pos he1]
    have he1b : (e1 != 0) = true := by simpa using he1
    have he1c : (e1 == 0) = false := by simpa using he1
    clear he1
    go_enter Try.func71, Try.ntmps71
    go_wp2_with fail
    refine HU.out.mono ?_
    rintro ee w1 ⟨rfl, hr1, hk1⟩
    have HR := Lib.hid hr1
    obtain ⟨A, cap, l2, h1, h2, h3, h4, h5, h6⟩ := hr1
    have c0 := cell_of h1 0
    have c1 := cell_of h1 1
    clear h5 h6
    go_wp2
    go_ret
    exact ⟨rfl, HR.out, hk1⟩
  · obtain rfl : e1 = 0 := by omega
    rw [if_neg he1]
    clear he1
    by_cases hn : n > l1.length
    · rw [if_pos hn]
      go_enter Try.func71, Try.ntmps71
      go_wp2_with fail
      refine HU.out.mono ?_
      rintro ee w1 ⟨rfl, hr1, hk1⟩
      obtain ⟨A, cap, l2, h1, h2, h3, h4, h5, h6⟩ := hr1
      obtain rfl := h6 rfl
      have c0 := cell_of h1 0
      have c1 := cell_of h1 1
      have f1 := frozen_of h1 1
      have hs := heap_set h1 1 (.int .i64 3)
      have c1' := cell_of hs 1
      have hm := Kd.C_max h5
      have H5 := Lib.hid h5
      have HS := Lib.hid hs
      clear h5 h6 hs
      go_wp2
      all_goals (first | (exfalso; omega) | skip)
      go_ret
      exact ⟨rfl, ⟨_, cap, l2, HS.out, h2, h3, h4.setCell (p := ⟨B, 1, none⟩) h3 _, H5.out, by simp⟩, hk1.trans (kx_set _ _ _ _ _)⟩
    · rw [if_neg hn]
      go_enter Try.func71, Try.ntmps71
      go_wp2_with fail
      refine HU.out.mono ?_
      rintro ee w1 ⟨rfl, hr1, hk1⟩
      have HR := Lib.hid hr1
      obtain ⟨A, cap, l2, h1, h2, h3, h4, h5, h6⟩ := hr1
      obtain rfl := h6 rfl
      have c0 := cell_of h1 0
      have c1 := cell_of h1 1
      have hm := Kd.C_max h5
      clear h5 h6
      go_wp2
      all_goals (first | (exfalso; omega) | skip)
      go_ret
      exact ⟨rfl, HR.out, hk1⟩

theorem rdRaw_len_form (l : List Int) (e : Int) : rdRaw l e = if (rdLen l e).2.2 ≠ 0 then ([], (rdLen l e).2.1, (rdLen l e).2.2) else ((rdLen l e).2.1.take (rdLen l e).1, (rdLen l e).2.1.drop (rdLen l e).1, 0) := by
  unfold rdRaw rdLen
  split
  · rfl
  · split
    · simp
    · simp
theorem rdLen_le (l : List Int) (e : Int) (h : (rdLen l e).2.2 = 0) : (rdLen l e).1 ≤ (rdLen l e).2.1.length := by
  unfold rdLen at h ⊢
  split
  · rename_i hh; rw [if_pos hh] at h; exact absurd h hh
  · rename_i hh
    rw [if_neg hh] at h
    split
    · rename_i h2; rw [if_pos h2] at h; exact absurd h (by simp)
    · simp; omega

set_option maxRecDepth 100000 in
set_option maxHeartbeats 1000000 in
theorem rraw_calls (wB : World) (B : Nat) (l : List Int) (e : Int) (hb255 : ∀ x ∈ l, 0 ≤ x ∧ x ≤ 255) (w : World) (h : Rf wB w B l e) :
    Calls Try.prog 58 #[.pointer (some ⟨B, 0, none⟩)] w fun ee w' => ∃ A c, ee = .returned (.slice A (rdRaw l e).1.length c) ∧ (rdRaw l e).1.length ≤ c ∧ Kd.C (Kd.int .u8) wB A (rdRaw l e).1.length (rdRaw l e).1 ∧ Rf wB w' B (rdRaw l e).2.1 (rdRaw l e).2.2 ∧ KX B w.heap.size w w' := by
  have hU := length_calls wB B l e hb255 w h
  have hle := rdLen_le l e
  rw [rdRaw_len_form]
  obtain ⟨n, l1, e1, hq⟩ : ∃ n l1 e1, rdLen l e = (n, l1, e1) := ⟨_, _, _, rfl⟩
  rw [hq] at hle hU ⊢
  simp only at hle hU ⊢
  have HU := Lib.hid hU
  clear hU hq h
  by_cases he1 : e1 ≠ 0
  · rw [if_pos he1]
    have he1b : (e1 != 0) = true := by simpa using he1
    clear he1 hle
    go_enter Try.func58, Try.ntmps58
    go_wp2_with fail
    refine HU.out.mono ?_
    rintro ee w1 ⟨rfl, hr1, hk1⟩
    have HR := Lib.hid hr1
    obtain ⟨A, cap, l2, h1, h2, h3, h4, h5, h6⟩ := hr1
    have c1 := cell_of h1 1
    clear h5 h6
    go_wp2
    go_ret
    exact ⟨none, 0, rfl, Nat.le_refl _, Kd.C_nil _ _, HR.out, hk1⟩
  · obtain rfl : e1 = 0 := by omega
    rw [if_neg he1]
    have hnl := hle rfl
    clear he1 hle
    go_enter Try.func58, Try.ntmps58
    go_wp2_with fail
    refine HU.out.mono ?_
    rintro ee w1 ⟨rfl, hr1, hk1⟩
    obtain ⟨A, cap, l2, h1, h2, h3, h4, h5, h6⟩ := hr1
    obtain rfl := h6 rfl
    have c0 := cell_of h1 0
    have c1 := cell_of h1 1
    have f0 := frozen_of h1 0
    have hm := Kd.C_max h5
    obtain ⟨hcut, hC1, hc1⟩ := cut_run A cap l2 n hnl h2 .i64 wB h5
    obtain ⟨A', hdrop, hC2, hc2⟩ := drop_run A cap l2 n hnl h2 wB h5
    have hs := heap_set h1 0 (.slice A' (l2.length - n) (cap - n))
    have hln : (l2.drop n).length = l2.length - n := List.length_drop
    have HS := Lib.hid hs
    have H1 := Lib.hid hC1
    have H2 := Lib.hid hC2
    have HL := Lib.hid hln
    clear h5 h6 hs hC1 hC2 hln
    have hll : (l2.take n).length = n := by rw [List.length_take]; omega
    rw [hll] at hcut
    go_wp2
    go_ret
    exact ⟨A, cap, by rw [hll]; rfl, hc1, H1.out, ⟨A', cap - n, l2.drop n, by rw [HL.out]; exact HS.out, hc2, h3, h4.setCell (p := ⟨B, 0, none⟩) h3 _, H2.out, fun _ => rfl⟩, hk1.trans (kx_set _ _ _ _ _)⟩

set_option maxHeartbeats 1000000 in
theorem rint_calls (wB : World) (B : Nat) (l : List Int) (e : Int) (hb255 : ∀ x ∈ l, 0 ≤ x ∧ x ≤ 255) (w : World) (h : Rf wB w B l e) :
    Calls Try.prog 59 #[.pointer (some ⟨B, 0, none⟩)] w fun ee w' => ee = .returned (.int .i64 (unzz (rdUint l e).1)) ∧ Rf wB w' B (rdUint l e).2.1 (rdUint l e).2.2 ∧ KX B w.heap.size w w' := by
  go_enter Try.func59, Try.ntmps59
  go_wp2_with (first
    | (go_at_call 73; refine (ruint_calls wB B l e hb255 w h).mono ?_; rintro ee w1 ⟨rfl, hr2, hk1⟩)
    | (go_at_call 72; refine (back_calls _ (rdUint_lt l e hb255) _).mono ?_; rintro ee w2 ⟨rfl, rfl⟩))
  go_ret
  exact ⟨rfl, hr2, hk1⟩

end Go.Proofs.Ytbihjkpbmebpbaa.Ref02
