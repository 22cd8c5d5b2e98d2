/- The hash of package hash: what its functions return, for every label and every list. -/
import Derived.RangeFuncNested
import Derived.RangeFuncBound
import Derived.RangeFuncCalls
import Derived.RangeFuncLeaves
import Derived.RangeFuncBox
import Derived.Shelf.Abstract
import Derived.Shelf.RegionOpen
import Derived.WalkKit
import Derived.OwnWalkIn
import Derived.TacticsInMore
import Derived.LoopNIn
import Derived.LoopIn
import Derived.Outline
import Derived.Lib.Hide
import Derived.Maps.AppendAt
import Derived.Test.YtjnbbmiccbjjbaaMa
import Derived.Test.YtjnbbmiccbjjbaaProg
import Derived.Test.YtjnbbmiccbjjbaaWWords
import Derived.Test.YtjnbbmiccbjjbaaWLast
import Derived.Test.YtjnbbmiccbjjbaaWMore
namespace Go.Proofs.Ytjnbbmiccbjjbaa.Hash
open Go.RowKit Go.Shelf Go.Proofs Go.Proofs.Ytjnbbmiccbjjbaa.Ma Go.Proofs.YtjnbbmiccbjjbaaW.PrintWords Go.Proofs.YtjnbbmiccbjjbaaW.PrintLast
attribute [local go_sem] Oper.semAt_some

/-- What a round keeps: all below n₀, and block Bs. -/
structure KB (n₀ Bs : Nat) (W W' : World) : Prop where
  below : Below n₀ W W'
  box : W'.heap[Bs]? = W.heap[Bs]?
theorem KB.refl (n₀ Bs : Nat) (W : World) : KB n₀ Bs W W := ⟨Below.refl _ _, rfl⟩
theorem KB.trans {n₀ Bs : Nat} {A B C : World} (h : KB n₀ Bs A B) (k : KB n₀ Bs B C) : KB n₀ Bs A C := ⟨h.below.trans k.below, k.box.trans h.box⟩
theorem KB.cell {n₀ Bs : Nat} {W W' : World} (h : KB n₀ Bs W W') (j : Nat) : W'.cell? ⟨Bs, j, none⟩ = W.cell? ⟨Bs, j, none⟩ := World.cell?_of_block (w := W) h.box
theorem KB.setCell {n₀ Bs : Nat} {A W : World} (h : KB n₀ Bs A W) {p : Addr} (hp : n₀ ≤ p.block) (hne : p.block ≠ Bs) (u : Value) : KB n₀ Bs A (W.setCell p u) :=
  h.trans ⟨(Below.refl _ _).setCell hp u, Below.heap_setCell _ _ _ _ (fun e => hne e.symm)⟩
theorem KB.grown {n₀ Bs : Nat} {A W W' : World} {row : Option Nat} (h : KB n₀ Bs A W) (hg : W.grownBy W' row) (hn : n₀ ≤ W.heap.size) (hB : Bs < W.heap.size) (hr : ∀ k, row = some k → n₀ ≤ k ∧ k ≠ Bs) : KB n₀ Bs A W' :=
  h.trans ⟨(Below.refl _ _).grown hg hn (fun k e => (hr k e).1), hg.block Bs hB (fun e => (hr Bs e.symm).2 rfl)⟩
theorem KB.putObj {n₀ Bs : Nat} {w : World} (hn : n₀ ≤ w.heap.size) (hB : Bs < w.heap.size) (W : World) (l : Nat) (o o' : Obj) (hl : w.heap.size ≤ l) (h : W.heap[l]? = some o) (_ : o.isCells = false) (_ : o.isWalk = false) : KB n₀ Bs W (W.putObj l o') :=
  (KB.refl _ _ _).grown (grownBy_putObj' W l o') (by have := (Array.getElem?_eq_some_iff.1 h).1; omega) (by have := (Array.getElem?_eq_some_iff.1 h).1; omega) (fun k e => by cases e; omega)
theorem KB.of_below {n₀ Bs : Nat} {W W' : World} (h : Below W.heap.size W W') (hn : n₀ ≤ W.heap.size) (hB : Bs < W.heap.size) : KB n₀ Bs W W' := ⟨h.mono hn, h.block Bs hB⟩

theorem map_range_succ {α : Type} (f : Nat → α) (k : Nat) : (List.range (k + 1)).map f = (List.range k).map f ++ [f k] := by simp [List.range_succ]

set_option maxRecDepth 100000 in
set_option maxHeartbeats 2000000 in
theorem wordsS1_in (F : Fence) (n : Nat) (h7 : F.fn 80) (hro : F.round = none) (hn : 1 ≤ n) (l Bs n₀ : Nat) (s : ByteArray) (hreach : s.size ≤ 140737488351232) (J Jx : List Int → World → Prop)
    (hY : ∀ pre x W, J pre W → pre.length < (s.size + 7) / 8 → YieldAt F (n - 1) Try.prog l #[.int .u64 x] W fun e W' =>
      (e = .returned (.bool true) ∧ J (pre ++ [x]) W' ∧ KB n₀ Bs W W') ∨ (e = .returned (.bool false) ∧ Jx (pre ++ [x]) W'))
    (W : World) (hBs : W.cell? ⟨Bs, 0, none⟩ = some (.string s)) (h0 : J [] W) :
    CallsIn F n Try.prog 80 #[.func (.yield l) #[] #[], .pointer (some ⟨Bs, 0, none⟩)] W fun e W' => (∃ v, e = .returned v) ∧
      ((∃ ys, ys = wordsF (bsN s) s.size ∧ J ys W') ∨ (∃ pre, True ∧ Jx pre W')) := by
  refine callsIn_of_wp Try.func80 rfl h7 ?_ hro
  simp only [Try.ntmps80, List.size_toArray, List.length_cons, List.length_nil, Nat.reduceAdd, Nat.reduceSub, Array.replicate_succ, Array.replicate_zero, List.push_toArray, List.append_toArray, List.nil_append, List.cons_append]
  gi_wp2
  gi_loopw [3] (fun i wr => ∃ k : Nat, 8 * k < s.size + 8 ∧ i = .int .i64 (8 * (k : Int)) ∧ J ((List.range k).map fun k => wv (bsN s) (8 * k) (min 8 (s.size - 8 * k))) wr ∧ KB n₀ Bs W wr)
    (fun i _ => s.size + 8 - (intOf i).toNat)
  case atStart => exact ⟨0, by omega, rfl, h0, KB.refl _ _ _⟩
  case round =>
    obtain ⟨k, hk, rfl, hJs, hnx⟩ := hrel
    have hcx : wr.cell? ⟨Bs, 0, none⟩ = some (.string s) := (hnx.cell 0).trans hBs
    by_cases hlt : 8 * k < s.size
    · obtain ⟨fn, tmps, assign, body, hy, hR⟩ := hY _ (wv (bsN s) (8 * k) (min 8 (s.size - 8 * k))) wr hJs (by simp; omega)
      have hlt' : decide (8 * (k : Int) < (s.size : Int)) = true := by simp; omega
      have hy' := Lib.hid hy
      clear hy
      gi_wp2
      gi_loopw [4, 5] (fun v q W' => ∃ m : Nat, 8 * k + m ≤ s.size ∧ m ≤ 8 ∧ q = .int .i64 (8 * (k : Int) + m) ∧ v = .int .u64 (wv (bsN s) (8 * k) m) ∧ W' = wr)
        (fun _ i _ => s.size + 8 - (intOf i).toNat)
      case atStart => exact ⟨0, by omega, by omega, by simp, by simp [wv], rfl⟩
      case round =>
        obtain ⟨m, hm, hm8, rfl, rfl, rfl⟩ := hrel
        by_cases hlt2 : m < 8 ∧ 8 * k + m < s.size
        · gi_wp2
          all_goals
            go_roundw
            case rel => exact ⟨m + 1, by omega, by omega, by simp; omega, by rw [bsN_at s (8 * k + m) hlt2.2, wv_or _ (bsN_range s) _ _ hlt2.1], trivial⟩
            case measure => simp [intOf]; omega
        · obtain rfl : m = min 8 (s.size - 8 * k) := by omega
          have hy := hy'.out
          gi_wp2
          all_goals
            refine hR.mono ?_
            rintro e W3 (⟨rfl, hJ3, hk3⟩ | ⟨rfl, hJx3⟩)
          all_goals gi_wp2
          all_goals
            first
            | (go_roundw
               case rel => exact ⟨k + 1, by omega, by simp; omega, by rw [map_range_succ]; exact hJ3, hnx.trans hk3⟩
               case measure => simp [intOf]; omega)
            | (refine bodyPost_ret (results_none rfl _ _ _) rfl ?_
               exact ⟨⟨_, rfl⟩, .inr ⟨_, trivial, hJx3⟩⟩)
    · have e8 : (s.size + 7) / 8 = k := by omega
      gi_wp2
      go_end0
      exact ⟨⟨_, rfl⟩, .inl ⟨_, rfl, by unfold wordsF; rw [e8]; exact hJs⟩⟩

set_option maxHeartbeats 1000000 in
theorem wordsS_in (F : Fence) (n : Nat) (h5 : F.fn 71) (hro : F.round = none) (s : ByteArray) (w : World) :
    CallsIn F n Try.prog 71 #[.string s] w fun e w' => e = .returned (.func (.func 80) #[] #[.pointer (some ⟨w.heap.size, 0, none⟩)]) ∧ w' = w.alloc (.cells #[.string s] 9) := by
  refine callsIn_of_wp Try.func71 rfl h5 ?_ hro
  simp only [Try.ntmps71, List.size_toArray, List.length_cons, List.length_nil, Nat.reduceAdd, Nat.reduceSub, Array.replicate_succ, Array.replicate_zero, List.push_toArray, List.append_toArray, List.nil_append, List.cons_append]
  gi_wp2
  go_ret
  exact ⟨rfl, rfl⟩

theorem wordsS_stops (F : Fence) (n : Nat) (h7 : F.fn 80) (hro : F.round = none) (hn : 1 ≤ n) (Bs n₀ : Nat) (s : ByteArray) (hreach : s.size ≤ 140737488351232) (w : World) (hBs : Bs < w.heap.size)
    (hc : w.cell? ⟨Bs, 0, none⟩ = some (.string s)) :
    SeqStopsK F n Try.prog 80 #[.pointer (some ⟨Bs, 0, none⟩)] (fun x : Int => #[Value.int .u64 x]) (KB n₀ Bs) (fun ys => ys = wordsF (bsN s) s.size) (fun _ => True) ((s.size + 7) / 8) w := fun l J Jx W hW _ _ hY h0 => by
  have hc' := (hW.cell (p := ⟨Bs, 0, none⟩) hBs).trans hc
  exact (wordsS1_in F n h7 hro hn l Bs n₀ s hreach J Jx hY W hc' h0).mono fun e W' ⟨he, hj⟩ => ⟨he, hj⟩

theorem mix_in (F : Fence) (n : Nat) (h5 : F.fn 72) (hro : F.round = none) (s x : Int) (w : World) :
    CallsIn F n Try.prog 72 #[.int .u64 s, .int .u64 x] w fun e w' => e = .returned (.int .u64 (mixL s x)) ∧ w = w' := by
  refine callsIn_of_wp Try.func72 rfl h5 ?_ hro
  simp only [Try.ntmps72, List.size_toArray, List.length_cons, List.length_nil, Nat.reduceAdd, Nat.reduceSub, Array.replicate_succ, Array.replicate_zero, List.push_toArray, List.append_toArray, List.nil_append, List.cons_append]
  gi_wp2
  go_ret
  exact ⟨rfl, rfl⟩

set_option maxRecDepth 100000 in
set_option maxHeartbeats 2000000 in
theorem sum_in (F : Fence) (n : Nat) (h45 : F.fn 59) (h61 : F.fn 71) (h74 : F.fn 80) (h62 : F.fn 72) (hro : F.round = none) (hn : 3 ≤ n)
    (s : ByteArray) (hreach : s.size ≤ 140737488351232) (A : Option Addr) (cap : Nat) (l : List Int) (w : World) (hC : Kd.C (Kd.int .i64) w A l.length l) :
    CallsIn F n Try.prog 59 #[.string s, .slice A l.length cap] w fun e w' => e = .returned (.int .u64 (sumL (wordsF (bsN s) s.size) s.size l)) ∧ Below w.heap.size w w' := by
  have h1 : 1 ≤ n := by omega
  have h3 : 1 ≤ n - 1 - 1 := by omega
  have hm := Kd.C_max hC
  refine callsIn_of_wp_marks Try.func59 rfl h45 ?_ hro
  simp only [Try.ntmps59, List.size_toArray, List.length_cons, List.length_nil, Nat.reduceAdd, Nat.reduceSub, Array.replicate_succ, Array.replicate_zero, List.push_toArray, List.append_toArray, List.nil_append, List.cons_append]
  gi_wp2_with (gi_at_call 71; refine (wordsS_in F (n - 1) h61 hro _ _).mono ?_; rintro e w' ⟨rfl, rfl⟩)
  have hs := Boxed.new w 61 (.int .u64 0)
  have hb := Boxed.new (w.alloc (.cells #[.int .u64 0] 61)) 9 (.string s)
  rw [World.size_alloc] at hb
  have hB0 : Below w.heap.size w ((w.alloc (.cells #[.int .u64 0] 61)).alloc (.cells #[.string s] 9)) := ((Below.refl _ w).alloc (Nat.le_refl _) _).alloc (by simp) _
  refine wpIn_rangeFunc_ownF hro h1 (gf := 80) (lb := #[.pointer (some ⟨w.heap.size + 1, 0, none⟩)]) rfl h74 (enters_of Try.func80 (by kernel_rfl) rfl)
    (wordsS_stops F (n - 1) h74 hro (by omega) (w.heap.size + 1) w.heap.size s hreach _ (by simp) hb.cell) KB.trans (KB.putObj (by simp; omega) (by simp)) (Below.refl _ _) (fun _ => rfl)
    (fun pre W => Boxed W w.heap.size 61 (.int .u64 (pre.foldl mixL 0)) ∧ Below w.heap.size w W)
    (fun _ _ _ => False)
    (OwnFrom.and (Own.from (boxed_own _ _ _) _) (ownFrom_below (Nat.le_refl _) (by simp; omega)))
    (fun _ _ _ _ _ hs _ _ => hs)
    ⟨hs.alloc _, hB0⟩
    ?a1 ?assign ?body ?done ?stop
  case assign =>
    intro l x W K hK
    gi_wp2
    exact hK
  case body =>
    rintro l pre x W ⟨hc, hB⟩ _
    have hcc := hc.cell
    have hcf := hc.frozen
    gi_wp2_with (gi_at_call 72; refine (CallsIn.inRound l (mix_in F _ h62 hro _ _ _)).mono ?_; rintro e w' ⟨rfl, rfl⟩)
    exact ⟨KeepsOthers.setCell _ _ _, (KB.refl _ _ _).setCell (p := ⟨w.heap.size, 0, none⟩) (Nat.le_refl _) (by simp) _, by rw [List.foldl_append]; exact hc.set _, hB.setCell (p := ⟨w.heap.size, 0, none⟩) (Nat.le_refl _) _⟩
  case done =>
    rintro D ys W hD rfl ⟨hc, hB⟩ hK
    have hcc := hc.cell
    have hcf := hc.frozen
    gi_wp2_with (gi_at_call 72; refine (mix_in F _ h62 hro _ _ _).mono ?_; rintro e w' ⟨rfl, rfl⟩)
    have hc1 := hc.set (.int .u64 (mixL (mixL (List.foldl mixL 0 (wordsF (bsN s) s.size)) s.size) l.length))
    have hB1 := hB.setCell (p := ⟨w.heap.size, 0, none⟩) (Nat.le_refl _) (.int .u64 (mixL (mixL (List.foldl mixL 0 (wordsF (bsN s) s.size)) s.size) l.length))
    have hK1 := (KeepsOthers.setCell W ⟨w.heap.size, 0, none⟩ (.int .u64 (mixL (mixL (List.foldl mixL 0 (wordsF (bsN s) s.size)) s.size) l.length))).same D _ hK rfl
    have hDD : w.heap.size ≤ D := by simp at hD; omega
    clear hcc hcf hc hB hK hD
    gi_loopw [26] (fun i wr => ∃ k : Nat, k ≤ l.length ∧ i = .int .i64 k ∧ Boxed wr w.heap.size 61 (.int .u64 (((l.map fun x => IntKind.u64.wrap x).take k).foldl mixL (mixL (mixL (List.foldl mixL 0 (wordsF (bsN s) s.size)) s.size) l.length))) ∧ Below w.heap.size w wr ∧ wr.heap[D]? = some (.deferred (some [])))
      (fun i _ => l.length - (intOf i).toNat)
    case atStart => exact ⟨0, Nat.zero_le _, rfl, by simpa using hc1, hB1, hK1⟩
    case round =>
      obtain ⟨k, hk, rfl, hc, hB, hK⟩ := hrel
      have hcc := hc.cell
      have hcf := hc.frozen
      by_cases hlt : k < l.length
      · obtain ⟨ad, ea, hcl⟩ := Kd.at_int (Kd.C_below hC hB) (k : Int) (by omega) (by omega)
        subst ea
        simp only [Int.toNat_natCast] at hcl
        have hty : IntKind.u64.wrap (rd l k) = IntKind.u64.wrap l[k] := by unfold rd; simp [hlt]
        have hty' := Lib.hid hty
        clear hty
        gi_wp2_with (gi_at_call 72; refine (mix_in F _ h62 hro _ _ _).mono ?_; rintro e w' ⟨rfl, rfl⟩)
        go_roundw
        case rel => exact ⟨k + 1, by omega, by simp, by rw [List.take_succ_eq_append_getElem (by simpa using hlt), List.foldl_append, hty'.out, List.getElem_map, List.foldl_cons, List.foldl_nil]; exact hc.set _, hB.setCell (p := ⟨w.heap.size, 0, none⟩) (Nat.le_refl _) _, (KeepsOthers.setCell _ _ _).same D _ hK rfl⟩
        case measure => simp [intOf]; omega
      · obtain rfl : k = l.length := by omega
        rw [List.take_of_length_le (by simp)] at hc hcc
        gi_wp2_with (gi_at_call 72; refine (mix_in F _ h62 hro _ _ _).mono ?_; rintro e w' ⟨rfl, rfl⟩)
        refine ⟨by simp, .inl ⟨_, _, rfl, run_takeDeferred hK, ?_⟩⟩
        exact ⟨_, results_tmp rfl _ _ _, rfl, hB.trans (belowK_b (w := w) (Nat.le_refl _) _ D _ _ hDD hK rfl rfl)⟩
  case stop =>
    rintro D c pre W _ _ h _
    exact h.elim

theorem sum_calls (s : ByteArray) (hreach : s.size ≤ 140737488351232) (A : Option Addr) (cap : Nat) (l : List Int) (w : World) (hC : Kd.C (Kd.int .i64) w A l.length l) :
    Calls Try.prog 59 #[.string s, .slice A l.length cap] w fun e w' => e = .returned (.int .u64 (sumL (wordsF (bsN s) s.size) s.size l)) ∧ Below w.heap.size w w' :=
  callsIn_wide.1 (sum_in Fence.wide 3 trivial trivial trivial trivial rfl (Nat.le_refl _) s hreach A cap l w hC)

end Go.Proofs.Ytjnbbmiccbjjbaa.Hash
