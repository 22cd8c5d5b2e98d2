/- The reader of package wire: what its methods return, and what is left. -/
import Derived.Test.YtjnbbmiccbjjbaaWire
import Derived.Test.YtjnbbmiccbjjbaaRdL
namespace Go.Proofs.Ytjnbbmiccbjjbaa.Rdr
open Go.RowKit Go.Proofs Go.Proofs.Ytjnbbmiccbjjbaa.Ma Go.Proofs.Ytjnbbmiccbjjbaa.Wire Go.Proofs.YtjnbbmiccbjjbaaW.PrintWords Go.Proofs.YtjnbbmiccbjjbaaW.PrintLast

theorem heap_set {W : World} {B : Nat} {cs : Array Value} {t : TypeId} {fr : Nat × Nat} (h : W.heap[B]? = some (.cells cs t fr)) (j : Nat) (u : Value) : (W.setCell ⟨B, j, none⟩ u).heap[B]? = some (.cells (cs.set! j u) t fr) := by
  obtain ⟨hlt, hk⟩ := Array.getElem?_eq_some_iff.1 h
  show (W.heap.modify B _)[B]? = _
  rw [Array.getElem?_eq_getElem (by rw [Array.size_modify]; exact hlt), Array.getElem_modify_self, hk]
  rfl
theorem cell_of {W : World} {B : Nat} {cs : Array Value} {t : TypeId} (h : W.heap[B]? = some (.cells cs t (0, 0))) (j : Nat) : W.cell? ⟨B, j, none⟩ = cs[j]? := by simp [World.cell?, h]
theorem frozen_of {W : World} {B : Nat} {cs : Array Value} {t : TypeId} (h : W.heap[B]? = some (.cells cs t (0, 0))) (j : Nat) : W.frozen? ⟨B, j, none⟩ = false := by simp [World.frozen?, h]
theorem lt_of {W : World} {B : Nat} {o : Obj} (h : W.heap[B]? = some o) : B < W.heap.size := (Array.getElem?_eq_some_iff.1 h).1

theorem kx_set (B base j : Nat) (W : World) (u : Value) : KX B base W (W.setCell ⟨B, j, none⟩ u) :=
  ⟨rfl, rfl, rfl, by simp [World.setCell], fun k _ hn => Below.heap_setCell _ _ _ _ hn⟩

/-- Block B is a reader: the bytes l are left, e is the recorded error. -/
def Rdr (W : World) (B : Nat) (l : List Int) (e : Int) : Prop := ∃ A cap wB, W.heap[B]? = some (.cells #[.slice A l.length cap, .int .i64 e] 137 (0, 0)) ∧ l.length ≤ cap ∧ wB.heap.size ≤ B ∧ Below wB.heap.size wB W ∧ Kd.C (Kd.int .u8) wB A l.length l

theorem Rdr.lt {W : World} {B : Nat} {l : List Int} {e : Int} (h : Rdr W B l e) : B < W.heap.size := by obtain ⟨A, c, wB, hb, _⟩ := h; exact lt_of hb
theorem Rdr.below {W W' : World} {B : Nat} {l : List Int} {e : Int} (h : Rdr W B l e) (hb : Below W.heap.size W W') : Rdr W' B l e := by
  obtain ⟨A, c, wB, h1, h2, h3, h4, h5⟩ := h
  exact ⟨A, c, wB, (hb.block B (lt_of h1)).trans h1, h2, h3, h4.trans (hb.mono h4.size), h5⟩
theorem Rdr.kx {W W' : World} {B B' base : Nat} {l : List Int} {e : Int} (h : Rdr W B l e) (hk : KX B' base W W') (hne : B ≠ B') (hs : W.heap.size ≤ base) (hB' : B < B') : Rdr W' B l e := by
  obtain ⟨A, c, wB, h1, h2, h3, h4, h5⟩ := h
  have := lt_of h1
  exact ⟨A, c, wB, (hk.block B (by omega) hne).trans h1, h2, h3, h4.trans (hk.below (by have := h4.size; omega) (by omega)), h5⟩

/-- How a method of a reader ends: its result, what is left, the error; only the reader's block has changed. -/
def Rds (w : World) (B : Nat) (v : Value) (l : List Int) (e : Int) (e' : Ending) (w' : World) : Prop := e' = .returned v ∧ Rdr w' B l e ∧ KX B w.heap.size w w'

theorem Rdr.grown {W W' : World} {B : Nat} {l : List Int} {e : Int} {row : Option Nat} (h : Rdr W B l e) (hg : W.grownBy W' row) (hr : ∀ k, row = some k → B < k) : Rdr W' B l e := by
  obtain ⟨A, c, wB, h1, h2, h3, h4, h5⟩ := h
  have hlt := lt_of h1
  exact ⟨A, c, wB, (hg.block B hlt (fun e' => by have := hr B e'.symm; omega)).trans h1, h2, h3, h4.grown hg (by omega) (fun k e' => by have := hr k e'; omega), h5⟩
theorem kx_grown {B base : Nat} {W W' : World} {row : Option Nat} (hg : W.grownBy W' row) (hb : base ≤ W.heap.size) (hr : ∀ k, row = some k → base ≤ k) : KX B base W W' :=
  ⟨hg.os, hg.tape, hg.output, hg.size, fun k hk _ => hg.block k (by omega) (fun e => by have := hr k e.symm; omega)⟩

set_option maxHeartbeats 1000000 in
theorem fail_calls (B : Nat) (l : List Int) (e c : Int) (w : World) (h : Rdr w B l e) :
    Calls Try.prog 105 #[.pointer (some ⟨B, 0, none⟩), .int .i64 c] w (Rds w B (.tuple #[]) l (failE e c)) := by
  obtain ⟨A, cap, wB, h1, h2, h3, h4, h5⟩ := h
  have c1 := cell_of h1 1
  have f1 := frozen_of h1 1
  by_cases he : e = 0
  · subst he
    have hs := heap_set h1 1 (.int .i64 c)
    go_enter Try.func105, Try.ntmps105
    go_wp2
    go_end0
    exact ⟨rfl, ⟨A, cap, wB, hs, h2, h3, h4.setCell (p := ⟨B, 1, none⟩) h3 _, h5⟩, kx_set _ _ _ _ _⟩
  · have he1 : (e == 0) = false := by simpa using he
    go_enter Try.func105, Try.ntmps105
    go_wp2
    go_end0
    exact ⟨rfl, by unfold failE; rw [if_neg he]; exact ⟨A, cap, wB, h1, h2, h3, h4, h5⟩, KX.refl _ _ _⟩

set_option maxHeartbeats 1000000 in
theorem next_calls (B : Nat) (l : List Int) (e : Int) (w : World) (h : Rdr w B l e) :
    Calls Try.prog 104 #[.pointer (some ⟨B, 0, none⟩)] w (Rds w B (.int .u8 (nextC l e)) (nextR l e) (nextE l e)) := by
  have H := Lib.hid h
  obtain ⟨A, cap, wB, h1, h2, h3, h4, h5⟩ := h
  have c0 := cell_of h1 0
  have c1 := cell_of h1 1
  cases l with
  | nil =>
    go_enter Try.func104, Try.ntmps104
    go_wp2_with fail
    refine (fail_calls B [] e 3 w H.out).mono ?_
    rintro e' w1 ⟨rfl, hr1, hk1⟩
    have HR := Lib.hid hr1
    obtain ⟨A', cap', wB', g1, g2, g3, g4, g5⟩ := hr1
    have d1 := cell_of g1 1
    have hne : (failE e 3 != 0) = true := by unfold failE; split <;> simp [*]
    go_wp2
    go_ret
    exact ⟨rfl, HR.out, hk1⟩
  | cons x l =>
    by_cases he : e = 0
    · subst he
      obtain ⟨i0, hi, hz0, hz1, hz2⟩ := info_parts info8
      obtain ⟨A', hcut, hA', hC'⟩ := print_drop_of (P := Try.prog) (Value.int .u8) 0 27 5 .i64 Try.underlying27 hi hz1 A cap (x :: l) 1 (by decide) (by simp; omega) h2
      have h5' : Kd.C (Kd.int .u8) wB A' l.length l := Kd.C_of_reads (h1 := fun _ => rfl) (hA' _ (Kd.reads_of_C h5))
      obtain ⟨ad, ea, hcl⟩ := Kd.at_int (Kd.C_below h5 h4) 0 (by decide) (by simp)
      subst ea
      have hcl' : w.cell? (ad.add 0) = some (.int .u8 x) := hcl
      have had : ad.add 0 = ad := by simp [Addr.add]
      rw [had] at hcl'
      have f0 := frozen_of h1 0
      have hs := heap_set h1 0 (.slice A' l.length (cap - 1))
      have hcut' : ∀ W : World, (Instr.slice 27 (.slice (some ad) (l.length + 1) cap) (some (.int .i64 1)) none none).run Try.prog W = .ok (.slice A' l.length (cap - 1)) W := hcut
      have hlc : l.length ≤ cap - 1 := hC'
      clear hcut hcl hi hz0 hz1 hz2 hA' had hC'
      have HS := Lib.hid hs
      clear hs
      go_enter Try.func104, Try.ntmps104
      go_wp2
      go_ret
      exact ⟨rfl, ⟨A', cap - 1, wB, HS.out, hlc, h3, h4.setCell (p := ⟨B, 0, none⟩) h3 _, h5'⟩, kx_set _ _ _ _ _⟩
    · have he1 : (e != 0) = true := by simpa using he
      go_enter Try.func104, Try.ntmps104
      go_wp2
      go_ret
      exact ⟨by simp [nextC, he], by simpa [nextR, nextE, he] using H.out, KX.refl _ _ _⟩

set_option maxRecDepth 100000 in
set_option maxHeartbeats 4000000 in
theorem uint_calls (B : Nat) (l : List Int) (e : Int) (hb255 : ∀ x ∈ l, 0 ≤ x ∧ x ≤ 255) (w : World) (h : Rdr w B l e) :
    Calls Try.prog 89 #[.pointer (some ⟨B, 0, none⟩)] w (Rds w B (.int .u64 ((rdUint l e).1 : Nat)) (rdUint l e).2.1 (rdUint l e).2.2) := by
  obtain ⟨res, hres⟩ : ∃ res, rdUint l e = res := ⟨_, rfl⟩
  rw [hres]
  have hst : RdSt l 0 0 l e res := by
    unfold rdUint at hres
    by_cases he : e = 0
    · rw [if_pos he] at hres
      exact .inl ⟨he, by omega, ⟨0, rfl, by decide, hres.symm⟩, hb255⟩
    · rw [if_neg he] at hres
      exact .inr ⟨he, hres.symm⟩
  clear hres
  go_enter Try.func89, Try.ntmps89
  go_wp2
  go_loopw [3, 4] (fun n i wr => ∃ (k : Nat) (m : Int) (l' : List Int) (e' : Int), n = .int .u64 m ∧ i = .int .i64 k ∧ k ≤ 10 ∧ Rdr wr B l' e' ∧ RdSt l k m l' e' res ∧ KX B w.heap.size w wr) (fun _ i _ => 11 - (intOf i).toNat)
  case atStart => exact ⟨0, 0, l, e, rfl, rfl, by omega, h, hst, KX.refl _ _ _⟩
  case round =>
    obtain ⟨k, m, l', e', rfl, rfl, hk, hr, hs, hkx⟩ := hrel
    have HR := Lib.hid hr
    obtain ⟨A, cap, wB, h1, h2, h3, h4, h5⟩ := hr
    have c1 := cell_of h1 1
    rcases hs with ⟨rfl, hk9, ⟨mn, rfl, hmn, hrs⟩, hb⟩ | ⟨he, hrs⟩
    · go_wp2_with fail
      refine (next_calls B l' 0 wr HR.out).mono ?_
      rintro ee w1 ⟨rfl, hr1, hk1⟩
      have hkx1 : KX B w.heap.size w w1 := hkx.trans (hk1.mono hkx.size)
      clear h1 h2 h3 h4 h5 c1 HR
      have HR := Lib.hid hr1
      obtain ⟨A', cap', wB', g1, g2, g3, g4, g5⟩ := hr1
      have d1 := cell_of g1 1
      cases l' with
      | nil =>
        simp only [nextC, nextR, nextE, failE, if_true] at HR d1 ⊢
        have Hrs := Lib.hid hrs
        clear hrs g1 g2 g3 g4 g5
        go_wp2_with (go_at_call 105; refine (fail_calls B _ _ 2 _ HR.out).mono ?_; rintro ee w2 ⟨rfl, hr2, hk2⟩; rw [show failE 3 2 = 3 from rfl] at hr2; have hkx2 : KX B w.heap.size w w2 := hkx1.trans (hk2.mono hkx1.size); clear d1 HR; have HR := Lib.hid hr2; obtain ⟨A2, cap2, wB2, q1, q2, q3, q4, q5⟩ := hr2; have d2 := cell_of q1 1; clear q1 q2 q3 q4 q5)
        all_goals
          first
          | (exfalso; omega)
          | (go_roundw
             case rel => exact ⟨k + 1, _, [], _, rfl, (by first | rfl | (simp; done) | (simp; omega)), by omega, HR.out, .inr ⟨by decide, Hrs.out⟩, by assumption⟩
             case measure => simp [intOf]; omega)
      | cons x l' =>
        obtain ⟨xn, rfl⟩ := Int.eq_ofNat_of_zero_le (hb x (by simp)).1
        have hx255 : xn < 256 := by have := (hb xn (by simp)).2; omega
        have hb' : ∀ y ∈ l', 0 ≤ y ∧ y ≤ 255 := fun y hy => hb y (by simp [hy])
        simp only [nextC, nextR, nextE, if_true] at HR d1 ⊢
        clear g1 g2 g3 g4 g5 hb
        have hx0 : (((xn : Int) == 0) = true ∧ xn ≤ 0) ∨ (((xn : Int) == 0) = false ∧ 0 < xn) := by
          rcases Nat.eq_zero_or_pos xn with h | h
          · exact .inl ⟨by simp [h], by omega⟩
          · exact .inr ⟨by simp; omega, h⟩
        rcases hx0 with ⟨hxb, hx0⟩ | ⟨hxb, hx0⟩
        all_goals
          by_cases hP : (k = 9 ∧ (xn : Int) > 1) ∨ (k > 0 ∧ (xn : Int) = 0)
          · have Hrs := Lib.hid (hrs.trans (rdU_bad k mn _ l' hP))
            clear hrs
            go_wp2_with (go_at_call 105; refine (fail_calls B _ _ 2 _ HR.out).mono ?_; rintro ee w2 ⟨rfl, hr2, hk2⟩; rw [show failE 0 2 = 2 from rfl] at hr2; have hkx2 : KX B w.heap.size w w2 := hkx1.trans (hk2.mono hkx1.size); clear d1 HR; have HR := Lib.hid hr2; obtain ⟨A2, cap2, wB2, q1, q2, q3, q4, q5⟩ := hr2; have d2 := cell_of q1 1; clear q1 q2 q3 q4 q5)
            all_goals
              first
              | (exfalso; omega)
              | (go_roundw
                 case rel => exact ⟨k + 1, _, l', _, rfl, (by first | rfl | (simp; done) | (simp; omega)), by omega, HR.out, .inr ⟨by decide, Hrs.out⟩, by assumption⟩
                 case measure => simp [intOf]; omega)
          · have h9 : k = 9 → xn ≤ 1 := by omega
            have Hor := Lib.hid (rd_or mn xn k hmn hx255 hk9 h9)
            by_cases hlo : xn < 128
            · have Hrs := Lib.hid (hrs.trans (rdU_end k mn xn l' hP hlo))
              clear hrs
              go_wp2_with (go_at_call 105; refine (fail_calls B _ _ 2 _ HR.out).mono ?_; rintro ee w2 ⟨rfl, hr2, hk2⟩; rw [show failE 0 2 = 2 from rfl] at hr2; have hkx2 : KX B w.heap.size w w2 := hkx1.trans (hk2.mono hkx1.size); clear d1 HR; have HR := Lib.hid hr2; obtain ⟨A2, cap2, wB2, q1, q2, q3, q4, q5⟩ := hr2; have d2 := cell_of q1 1; clear q1 q2 q3 q4 q5)
              all_goals
                first
                | (exfalso; omega)
                | (go_ret
                   rw [Hrs.out]
                   exact ⟨congrArg (fun z => Ending.returned (Value.int .u64 z)) Hor.out, HR.out, hkx1⟩)
                | (go_ret
                   rw [Hrs.out]
                   obtain rfl : k = 9 := by omega
                   have h9' := Hor.out
                   rw [show (2 : Int) ^ (7 * 9) = 9223372036854775808 from by decide] at h9'
                   exact ⟨congrArg (fun z => Ending.returned (Value.int .u64 z)) h9', HR.out, hkx1⟩)
            · have Hrs := Lib.hid (hrs.trans (rdU_more k mn xn l' hP (by omega)))
              clear hrs
              go_wp2_with (go_at_call 105; refine (fail_calls B _ _ 2 _ HR.out).mono ?_; rintro ee w2 ⟨rfl, hr2, hk2⟩; rw [show failE 0 2 = 2 from rfl] at hr2; have hkx2 : KX B w.heap.size w w2 := hkx1.trans (hk2.mono hkx1.size); clear d1 HR; have HR := Lib.hid hr2; obtain ⟨A2, cap2, wB2, q1, q2, q3, q4, q5⟩ := hr2; have d2 := cell_of q1 1; clear q1 q2 q3 q4 q5)
              all_goals
                first
                | (exfalso; omega)
                | (go_roundw
                   case rel => exact ⟨k + 1, _, l', 0, rfl, (by first | rfl | (simp; done) | (simp; omega)), by omega, HR.out, .inl ⟨rfl, by omega, ⟨_, Hor.out, by rw [Nat.pow_succ]; have := Nat.mul_le_mul_right (128 ^ k) (show xn % 128 ≤ 127 by omega); omega, Hrs.out⟩, hb'⟩, by assumption⟩
                   case measure => simp [intOf]; omega)
    · have he1 : (e' == 0) = false := by simpa using he
      have Hrs := Lib.hid hrs
      clear hrs
      go_wp2
      go_ret
      rw [Hrs.out]
      exact ⟨rfl, HR.out, hkx⟩

/-- How a method of a reader that gives bytes ends. -/
def RdsB (w : World) (B : Nat) (bs l : List Int) (e : Int) (e' : Ending) (w' : World) : Prop := ∃ v, e' = .returned v ∧ Kd.R (Kd.int .u8) 5 w' w.heap.size (fun _ => True) v bs ∧ Rdr w' B l e ∧ KX B w.heap.size w w'

set_option maxRecDepth 100000 in
set_option maxHeartbeats 4000000 in
theorem list_calls (B : Nat) (l : List Int) (e : Int) (hb255 : ∀ x ∈ l, 0 ≤ x ∧ x ≤ 255) (hl : l.length ≤ 140737488355327) (w : World) (h : Rdr w B l e) :
    Calls Try.prog 106 #[.pointer (some ⟨B, 0, none⟩), .func (.func 104) #[.pointer (some ⟨B, 0, none⟩)] #[]] w (RdsB w B (rdRaw l e).1 (rdRaw l e).2.1 (rdRaw l e).2.2) := by
  have hlt := rdUint_lt l e hb255
  have hzero := rdUint_zero l e
  have hle := rdUint_le l e
  have hby := rdUint_byte l e hb255
  unfold rdRaw
  obtain ⟨n, l1, e1, hq⟩ : ∃ n l1 e1, rdUint l e = (n, l1, e1) := ⟨_, _, _, rfl⟩
  have hU := uint_calls B l e hb255 w h
  rw [hq] at hlt hzero hle hby hU ⊢
  simp only at hlt hzero hle hby hU ⊢
  have hBw := h.lt
  clear hq h
  have HU := Lib.hid hU
  clear hU
  by_cases he1 : e1 ≠ 0
  · rw [if_pos he1]
    have hn0 := hzero he1
    subst hn0
    have he1b : (e1 != 0) = true := by simpa using he1
    have he1c : (e1 == 0) = false := by simpa using he1
    clear hzero he1
    go_enter Try.func106, Try.ntmps106
    go_wp2_with fail
    refine HU.out.mono ?_
    rintro ee w1 ⟨rfl, hr1, hk1⟩
    have HR := Lib.hid hr1
    obtain ⟨A, cap, wB, h1, h2, h3, h4, h5⟩ := hr1
    have c0 := cell_of h1 0
    have c1 := cell_of h1 1
    go_wp2
    go_loopw [7] (fun i wr => i = .int .u64 0 ∧ wr = w1) (fun _ _ => 0)
    case atStart => exact ⟨rfl, rfl⟩
    case round =>
      obtain ⟨rfl, rfl⟩ := hrel
      go_wp2
      go_ret
      exact ⟨_, rfl, Kd.R_nil _ _ _ _ _, HR.out, hk1⟩
  · obtain rfl : e1 = 0 := by omega
    rw [if_neg he1]
    clear he1 hzero
    by_cases hn : n > l1.length
    · rw [if_pos hn]
      go_enter Try.func106, Try.ntmps106
      go_wp2_with fail
      refine HU.out.mono ?_
      rintro ee w1 ⟨rfl, hr1, hk1⟩
      have HR := Lib.hid hr1
      obtain ⟨A, cap, wB, h1, h2, h3, h4, h5⟩ := hr1
      have c0 := cell_of h1 0
      have c1 := cell_of h1 1
      go_wp2_with (go_at_call 105; refine (fail_calls B _ _ 3 _ HR.out).mono ?_; rintro ee w2 ⟨rfl, hr2, hk2⟩; rw [show failE 0 3 = 3 from rfl] at hr2; clear c0 c1 HR; have HR := Lib.hid hr2; obtain ⟨A2, cap2, wB2, q1, q2, q3, q4, q5⟩ := hr2; have d2 := cell_of q1 1; clear q1 q2 q3 q4 q5)
      all_goals (first | (exfalso; omega) | skip)
      go_loopw [7] (fun i wr => i = .int .u64 0 ∧ wr = w2) (fun _ _ => 0)
      case atStart => exact ⟨rfl, rfl⟩
      case round =>
        obtain ⟨rfl, rfl⟩ := hrel
        go_wp2
        go_ret
        exact ⟨_, rfl, Kd.R_nil _ _ _ _ _, HR.out, hk1.trans (hk2.mono hk1.size)⟩
    · rw [if_neg hn]
      go_enter Try.func106, Try.ntmps106
      go_wp2_with fail
      refine HU.out.mono ?_
      rintro ee w1 ⟨rfl, hr1, hk1⟩
      have HR := Lib.hid hr1
      obtain ⟨A, cap, wB, h1, h2, h3, h4, h5⟩ := hr1
      have c0 := cell_of h1 0
      have c1 := cell_of h1 1
      go_wp2
      all_goals (first | (exfalso; omega) | skip)
      clear h1 h2 h3 h4 h5 c0 c1
      go_loopw [6, 7] (fun out i wr => ∃ k : Nat, k ≤ n ∧ i = .int .u64 k ∧ Rdr wr B (l1.drop k) 0 ∧ wr.ownsRow w.heap.size 5 1 out (l1.take k).length (nums .u8 (l1.take k)) ∧ KX B w.heap.size w wr) (fun _ i _ => n - (intOf i).toNat)
      case atStart => exact ⟨0, Nat.zero_le _, rfl, HR.out, own_nil _ _ _ _, hk1⟩
      case round =>
        obtain ⟨k, hk, rfl, hr2, ho, hkx⟩ := hrel
        clear HR
        have HR := Lib.hid hr2
        obtain ⟨A, cap, wB, h1, h2, h3, h4, h5⟩ := hr2
        have c1 := cell_of h1 1
        clear h1 h2 h3 h4 h5
        by_cases hlt2 : k < n
        · obtain ⟨x, hd, ht⟩ : ∃ x, l1.drop k = x :: l1.drop (k + 1) ∧ l1.take (k + 1) = l1.take k ++ [x] :=
            ⟨_, List.drop_eq_getElem_cons (show k < l1.length by omega), List.take_succ_eq_append_getElem (show k < l1.length by omega)⟩
          have htk : (l1.take k).length = k := by rw [List.length_take]; omega
          have hsz : w.heap.size ≤ wr.heap.size := hkx.size
          have HR2 := Lib.hid (next_calls B _ 0 wr HR.out)
          rw [hd] at HR2
          have Ht := Lib.hid ht
          rw [htk] at ho
          have Htk := Lib.hid htk
          clear hd ht htk HR
          go_wp2_with (first
            | (go_at_call 104; refine HR2.out.mono ?_; rintro ee w2 ⟨rfl, hr3, hk3⟩; clear c1; have HR := Lib.hid hr3; clear hr3; have ho2 : w2.ownsRow w.heap.size 5 1 u6 k (nums .u8 (l1.take k)) := own_move ho (fun b hb => hk3.block b (own_lt ho b hb) (by have := own_base ho b hb; omega)); have hsz2 : w.heap.size ≤ w2.heap.size := Nat.le_trans hsz hk3.size)
            | (at_builtin; refine print_append_num (w0 := w2) w.heap.size rfl _ _ 27 5 .u8 1 rfl Try.underlying27 info8 (by decide) u6 (l1.take k) x rfl rfl (by rw [Htk.out]; exact ho2) (Below.refl _ _) hsz2 (by rw [Htk.out]; omega) ?_; intro v1 w3 ho3 _ hg3 _))
          go_roundw
          case rel =>
            refine ⟨k + 1, by omega, by simp, ?_, by rw [Ht.out]; exact ho3, ?_⟩
            · exact Rdr.grown (show Rdr w2 B (l1.drop (k + 1)) 0 from HR.out) hg3 (fun b hb => by have := own_base ho b hb; omega)
            · exact (hkx.trans (hk3.mono hsz)).trans (kx_grown hg3 hsz2 (own_base ho))
          case measure => simp [intOf]; omega
        · obtain rfl : k = n := by omega
          go_wp2
          go_ret
          exact ⟨_, rfl, Kd.R_of_own ho (fun _ _ => trivial), HR.out, hkx⟩

set_option maxHeartbeats 1000000 in
theorem raw_calls (B : Nat) (l : List Int) (e : Int) (hb255 : ∀ x ∈ l, 0 ≤ x ∧ x ≤ 255) (hl : l.length ≤ 140737488355327) (w : World) (h : Rdr w B l e) :
    Calls Try.prog 90 #[.pointer (some ⟨B, 0, none⟩)] w (RdsB w B (rdRaw l e).1 (rdRaw l e).2.1 (rdRaw l e).2.2) := by
  go_enter Try.func90, Try.ntmps90
  go_wp2_with fail
  refine (list_calls B l e hb255 hl w h).mono ?_
  rintro ee w1 ⟨v, rfl, hr1, hr2, hk1⟩
  go_wp2
  go_ret
  exact ⟨_, rfl, hr1, hr2, hk1⟩

set_option maxHeartbeats 1000000 in
theorem unzigzag_calls (z : Nat) (hz : z < 18446744073709551616) (w : World) :
    Calls Try.prog 107 #[.int .u64 z] w fun e w' => e = .returned (.int .i64 (unzz z)) ∧ w = w' := by
  go_enter Try.func107, Try.ntmps107
  go_wp2
  rw [unzz_eq z hz]
  go_ret
  exact ⟨rfl, rfl⟩

set_option maxHeartbeats 1000000 in
theorem int_calls (B : Nat) (l : List Int) (e : Int) (hb255 : ∀ x ∈ l, 0 ≤ x ∧ x ≤ 255) (w : World) (h : Rdr w B l e) :
    Calls Try.prog 91 #[.pointer (some ⟨B, 0, none⟩)] w (Rds w B (.int .i64 (unzz (rdUint l e).1)) (rdUint l e).2.1 (rdUint l e).2.2) := by
  go_enter Try.func91, Try.ntmps91
  go_wp2_with fail
  refine (uint_calls B l e hb255 w h).mono ?_
  rintro ee w1 ⟨rfl, hr2, hk1⟩
  go_wp2_with fail
  refine (unzigzag_calls _ (rdUint_lt l e hb255) _).mono ?_
  rintro ee w2 ⟨rfl, rfl⟩
  go_wp2
  go_ret
  exact ⟨rfl, hr2, hk1⟩

set_option maxHeartbeats 1000000 in
theorem read_calls (A : Option Addr) (cap : Nat) (l : List Int) (w : World) (hC : Kd.C (Kd.int .u8) w A l.length l) (hl : l.length ≤ 140737488355328) :
    Calls Try.prog 88 #[.slice A l.length cap] w fun e w' => ∃ B, e = .returned (.pointer (some ⟨B, 0, none⟩)) ∧ w.heap.size ≤ B ∧ Rdr w' B l 0 ∧ Below w.heap.size w w' := by
  go_enter Try.func88, Try.ntmps88
  go_wp2_with fail
  refine (clone_calls A cap l w hC hl).mono ?_
  rintro e w1 ⟨v, rfl, hr, hb⟩
  obtain ⟨A', c', rfl, hlc, hC'⟩ := Kd.R_reads hr
  go_wp2
  go_ret
  exact ⟨w1.heap.size, rfl, hb.size, ⟨A', c', w1, World.alloc_heap_new w1 _, hlc, Nat.le_refl _, (Below.refl _ _).alloc (Nat.le_refl _) _, hC'⟩, hb.alloc hb.size _⟩
end Go.Proofs.Ytjnbbmiccbjjbaa.Rdr
