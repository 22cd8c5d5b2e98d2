/- The references' Few and SameBytes. -/
import Derived.Deep.QuietTactic
import Derived.BigQuiet
import Derived.Lib.ConvBytes
import Derived.Test.YtjnbbmiccbjjbaaRdr
namespace Go.Proofs.Ytjnbbmiccbjjbaa.Few
open Go.RowKit Go.Proofs Go.Proofs.Ytjnbbmiccbjjbaa.Ma Go.Proofs.Ytjnbbmiccbjjbaa.Wire Go.Proofs.YtjnbbmiccbjjbaaW.PrintWords Go.Proofs.YtjnbbmiccbjjbaaW.PrintLast

theorem below_of_drawn {w : World} (n : Nat) : Below w.heap.size w (w.drewN n) := pw_below_drewN (Below.refl _ _) n

set_option maxHeartbeats 1000000 in
theorem few_calls (A : Option Addr) (cap : Nat) (l : List Int) (n : Nat) (hl : min l.length n ≤ 140737488355327) (hcap : l.length ≤ cap) (w : World) (hC : Kd.C (Kd.int .u8) w A l.length l) :
    Calls Try.prog 15 #[.slice A l.length cap, .int .i64 n] w fun e w' => ∃ v, e = .returned v ∧ Kd.R (Kd.int .u8) 5 w' w.heap.size (fun _ => True) v (l.take n) ∧ Below w.heap.size w w' := by
  obtain ⟨i0, hi, hz0, hz1, hz2⟩ := info_parts info8
  by_cases h : (n : Int) < (l.length : Int)
  · have h2 := (print_take_of (P := Try.prog) (Value.int .u8) 0 27 5 .i64 Try.underlying27 hi hz1 A cap l (n : Int) (by omega) (by omega) hcap).2.1
    have k2 : Kd.C (Kd.int .u8) w A (l.take n).length (l.take n) := Kd.C_of_reads (h1 := fun _ => rfl) (h2 _ (Kd.reads_of_C hC))
    have hln : (l.take n).length = n := by rw [List.length_take]; omega
    rw [hln] at k2
    clear hln hi hz0 hz1 hz2 h2
    go_enter Try.func15, Try.ntmps15
    go_wp2_with (at_builtin; refine Kd.R_append_rows (Kd.int .u8) (Rr := (Kd.int .u8).K w) (w0 := w) w.heap.size rfl _ _ 27 5 (.int .u8 0) 1 rfl Try.underlying27 info8 rfl (by decide) (by decide) _ [] (l.take n) A n cap (fun _ => True) (fun _ => False) rfl rfl (Kd.R_nil _ _ _ _ _) k2 (fun _ _ h => h) (fun _ h => h.elim) (fun _ _ => trivial) (Below.refl _ _) (Nat.le_refl _) (by simp; omega) ?_; intro v1 w1 ho hb hg _)
    all_goals try (exfalso; omega)
    go_ret
    exact ⟨_, rfl, by simpa using ho, hb⟩
  · have hln : l.take n = l := List.take_of_length_le (by omega)
    rw [hln]
    clear hln hi hz0 hz1 hz2
    go_enter Try.func15, Try.ntmps15
    go_wp2_with (at_builtin; refine Kd.R_append_rows (Kd.int .u8) (Rr := (Kd.int .u8).K w) (w0 := w) w.heap.size rfl _ _ 27 5 (.int .u8 0) 1 rfl Try.underlying27 info8 rfl (by decide) (by decide) _ [] l A l.length cap (fun _ => True) (fun _ => False) rfl rfl (Kd.R_nil _ _ _ _ _) hC (fun _ _ h => h) (fun _ h => h.elim) (fun _ _ => trivial) (Below.refl _ _) (Nat.le_refl _) (by simp; omega) ?_; intro v1 w1 ho hb hg _)
    all_goals try (exfalso; omega)
    go_ret
    exact ⟨_, rfl, by simpa using ho, hb⟩

theorem map_range_succ {α : Type} (f : Nat → α) (k : Nat) : (List.range (k + 1)).map f = (List.range k).map f ++ [f k] := by simp [List.range_succ]

theorem drop_ne {a b : List Int} {i : Nat} (h1 : i < a.length) (h2 : i < b.length) (h : a[i] ≠ b[i]) : a ≠ b := fun e => by subst e; exact h rfl
theorem take_eq_succ {a b : List Int} {i : Nat} (h1 : i < a.length) (h2 : i < b.length) (h : a[i] = b[i]) (ht : a.take i = b.take i) : a.take (i + 1) = b.take (i + 1) := by
  rw [List.take_succ_eq_append_getElem h1, List.take_succ_eq_append_getElem h2, ht, h]

set_option maxRecDepth 100000 in
set_option maxHeartbeats 1000000 in
theorem sameBytes_calls (A1 A2 : Option Addr) (c1 c2 : Nat) (a b : List Int) (hl : a.length ≤ 140737488355328) (w : World) (hC1 : Kd.C (Kd.int .u8) w A1 a.length a) (hC2 : Kd.C (Kd.int .u8) w A2 b.length b) :
    Calls Try.prog 20 #[.slice A1 a.length c1, .slice A2 b.length c2] w fun e w' => e = .returned (.bool (decide (a = b))) ∧ ∃ n, w' = w.drewN n := by
  have H1 := Lib.hid hC1
  have H2 := Lib.hid hC2
  clear hC1 hC2
  by_cases hab : a.length = b.length
  · have hne : ((a.length : Int) != (b.length : Int)) = false := by simp [hab]
    have Hab := Lib.hid hab
    have hab1 : a.length ≤ b.length := by omega
    have hab2 : b.length ≤ a.length := by omega
    clear hab
    go_enter Try.func20, Try.ntmps20
    go_wp2
    go_loopw [5] (fun i wr => ∃ k : Nat, i = .int .i64 k ∧ k ≤ a.length ∧ Hid (a.take k = b.take k) ∧ Hid (∃ n, wr = w.drewN n)) (fun i _ => a.length - (intOf i).toNat)
    case atStart => exact ⟨0, rfl, Nat.zero_le _, Lib.hid rfl, Lib.hid ⟨0, rfl⟩⟩
    case round =>
      obtain ⟨k, rfl, hk, ht, hn⟩ := hrel
      by_cases hlt : k < a.length
      · obtain ⟨n, hn'⟩ := hn.out
        obtain ⟨x, y, hx, hy, hcx, hcy⟩ : ∃ x y, a[k]'hlt = x ∧ b[k]'(by omega) = y ∧ (∃ ad, A1 = some ad ∧ wr.cell? (ad.add k) = some (.int .u8 x)) ∧ ∃ ad, A2 = some ad ∧ wr.cell? (ad.add k) = some (.int .u8 y) := by
          have g1 := Kd.at_int (Kd.C_below H1.out (below_of_drawn n)) (k : Int) (by omega) (by omega)
          have g2 := Kd.at_int (Kd.C_below H2.out (below_of_drawn n)) (k : Int) (by omega) (by omega)
          have e1 : rd a k = a[k]'hlt := by unfold rd; simp [hlt]
          have e2 : rd b k = b[k]'(by omega) := by unfold rd; simp [show k < b.length by omega]
          rw [e1, Int.toNat_natCast, ← hn'] at g1
          rw [e2, Int.toNat_natCast, ← hn'] at g2
          exact ⟨_, _, rfl, rfl, g1, g2⟩
        obtain ⟨ad1, rfl, hc1⟩ := hcx
        obtain ⟨ad2, rfl, hc2⟩ := hcy
        have Hx := Lib.hid hx
        have Hy := Lib.hid hy
        have Hn := Lib.hid hn'
        have hk0 : (0 : Int) ≤ (k : Int) := by omega
        have hka : (k : Int) < (a.length : Int) := by omega
        have hkb : (k : Int) < (b.length : Int) := by omega
        clear hx hy hn' hn
        by_cases hxy : x = y
        · have hb1 : (x != y) = false := by simp [hxy]
          have HXY := Lib.hid hxy
          clear hxy
          go_wp2
          go_quiet (fail)
          go_wp2
          go_roundw
          case rel => exact ⟨k + 1, by simp, by omega, Lib.hid (take_eq_succ hlt (by omega) (by rw [Hx.out, Hy.out, HXY.out]) ht.out), Lib.hid (by rw [Hn.out]; exact ⟨_, World.drewN_drewN ..⟩)⟩
          case measure => simp [intOf]; omega
        · have hb1 : (x != y) = true := by simpa using hxy
          have hd : decide (a = b) = false := decide_eq_false (drop_ne hlt (by omega) (by rw [Hx.out, Hy.out]; exact hxy))
          have HD := Lib.hid hd
          clear hxy hd
          go_wp2
          go_quiet (fail)
          go_wp2
          go_ret
          exact ⟨congrArg (fun z => Ending.returned (Value.bool z)) HD.out.symm, by rw [Hn.out]; exact ⟨_, World.drewN_drewN ..⟩⟩
      · obtain rfl : k = a.length := by omega
        have hd : decide (a = b) = true := by
          apply decide_eq_true
          have h1 := ht.out
          rwa [List.take_length, Hab.out, List.take_length] at h1
        have HD := Lib.hid hd
        clear hd
        go_wp2
        go_ret
        exact ⟨congrArg (fun z => Ending.returned (Value.bool z)) HD.out.symm, hn.out⟩
  · have hne : ((a.length : Int) != (b.length : Int)) = true := by simp; omega
    have hd : decide (a = b) = false := decide_eq_false (fun e => hab (by rw [e]))
    rw [hd]
    clear hd
    go_enter Try.func20, Try.ntmps20
    go_wp2
    go_ret
    exact ⟨rfl, 0, rfl⟩

end Go.Proofs.Ytjnbbmiccbjjbaa.Few
