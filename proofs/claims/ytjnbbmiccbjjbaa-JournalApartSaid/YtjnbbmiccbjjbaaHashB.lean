/- The hash of byte slices: what hash.Bytes returns, for every label and every slice. -/
import Derived.RangeFuncNested
import Derived.RangeFuncBound
import Derived.RangeFuncCalls
import Derived.RangeFuncLeaves
import Derived.RangeFuncBox
import Derived.Shelf.Abstract
import Derived.Shelf.RegionOpen
import Derived.WalkKit
import Derived.OwnWalkIn
import Derived.TacticsInMore
import Derived.LoopNIn
import Derived.LoopIn
import Derived.Outline
import Derived.Lib.Hide
import Derived.Maps.AppendAt
import Derived.Test.YtjnbbmiccbjjbaaHash
import Derived.Test.YtjnbbmiccbjjbaaProg
import Derived.Test.YtjnbbmiccbjjbaaWWords
import Derived.Test.YtjnbbmiccbjjbaaWLast
import Derived.Test.YtjnbbmiccbjjbaaWMore
namespace Go.Proofs.Ytjnbbmiccbjjbaa.Hash
open Go.RowKit Go.Shelf Go.Proofs Go.Proofs.Ytjnbbmiccbjjbaa.Ma Go.Proofs.YtjnbbmiccbjjbaaW.PrintWords Go.Proofs.YtjnbbmiccbjjbaaW.PrintLast
attribute [local go_sem] Oper.semAt_some


set_option maxRecDepth 100000 in
set_option maxHeartbeats 2000000 in
theorem wordsB1_in (F : Fence) (n : Nat) (h7 : F.fn 70) (hro : F.round = none) (hn : 1 ≤ n) (l Bs n₀ : Nat) (A : Option Addr) (cap : Nat) (s : List Int) (hs : ∀ j, 0 ≤ rdN s j ∧ rdN s j ≤ 255) (hreach : s.length ≤ 140737488351232) (w0 : World) (hw0 : w0.heap.size ≤ n₀) (hC : Kd.C (Kd.int .u8) w0 A s.length s) (J Jx : List Int → World → Prop)
    (hY : ∀ pre x W, J pre W → pre.length < (s.length + 7) / 8 → YieldAt F (n - 1) Try.prog l #[.int .u64 x] W fun e W' =>
      (e = .returned (.bool true) ∧ J (pre ++ [x]) W' ∧ KB n₀ Bs W W') ∨ (e = .returned (.bool false) ∧ Jx (pre ++ [x]) W'))
    (W : World) (hW : Below w0.heap.size w0 W) (hBs : W.cell? ⟨Bs, 0, none⟩ = some (.slice A s.length cap)) (h0 : J [] W) :
    CallsIn F n Try.prog 70 #[.func (.yield l) #[] #[], .pointer (some ⟨Bs, 0, none⟩)] W fun e W' => (∃ v, e = .returned v) ∧
      ((∃ ys, ys = wordsF (rdN s) s.length ∧ J ys W') ∨ (∃ pre, True ∧ Jx pre W')) := by
  refine callsIn_of_wp Try.func70 rfl h7 ?_ hro
  simp only [Try.ntmps70, List.size_toArray, List.length_cons, List.length_nil, Nat.reduceAdd, Nat.reduceSub, Array.replicate_succ, Array.replicate_zero, List.push_toArray, List.append_toArray, List.nil_append, List.cons_append]
  gi_wp2
  gi_loopw [3] (fun i wr => ∃ k : Nat, 8 * k < s.length + 8 ∧ i = .int .i64 (8 * (k : Int)) ∧ J ((List.range k).map fun k => wv (rdN s) (8 * k) (min 8 (s.length - 8 * k))) wr ∧ KB n₀ Bs W wr)
    (fun i _ => s.length + 8 - (intOf i).toNat)
  case atStart => exact ⟨0, by omega, rfl, h0, KB.refl _ _ _⟩
  case round =>
    obtain ⟨k, hk, rfl, hJs, hnx⟩ := hrel
    have hcx : wr.cell? ⟨Bs, 0, none⟩ = some (.slice A s.length cap) := (hnx.cell 0).trans hBs
    by_cases hlt : 8 * k < s.length
    · obtain ⟨fn, tmps, assign, body, hy, hR⟩ := hY _ (wv (rdN s) (8 * k) (min 8 (s.length - 8 * k))) wr hJs (by simp; omega)
      have hlt' : decide (8 * (k : Int) < (s.length : Int)) = true := by simp; omega
      have hy' := Lib.hid hy
      clear hy
      gi_wp2
      gi_loopw [4, 5] (fun v q W' => ∃ m : Nat, 8 * k + m ≤ s.length ∧ m ≤ 8 ∧ q = .int .i64 (8 * (k : Int) + m) ∧ v = .int .u64 (wv (rdN s) (8 * k) m) ∧ W' = wr)
        (fun _ i _ => s.length + 8 - (intOf i).toNat)
      case atStart => exact ⟨0, by omega, by omega, by simp, by simp [wv], rfl⟩
      case round =>
        obtain ⟨m, hm, hm8, rfl, rfl, rfl⟩ := hrel
        by_cases hlt2 : m < 8 ∧ 8 * k + m < s.length
        · obtain ⟨ad, ea, hcl⟩ := Kd.at_int (Kd.C_below hC (hW.trans (hnx.below.mono hw0))) (8 * (k : Int) + m) (by omega) (by omega)
          subst ea
          have ei : (8 * (k : Int) + m).toNat = 8 * k + m := by omega
          rw [ei] at hcl
          have er : rd s (8 * (k : Int) + m) = rdN s (8 * k + m) := by unfold rd rdN; rw [ei]
          rw [er] at hcl
          clear er ei
          gi_wp2
          all_goals
            go_roundw
            case rel => exact ⟨m + 1, by omega, by omega, by simp; omega, by rw [wv_or _ hs _ _ hlt2.1], trivial⟩
            case measure => simp [intOf]; omega
        · obtain rfl : m = min 8 (s.length - 8 * k) := by omega
          have hy := hy'.out
          gi_wp2
          all_goals
            refine hR.mono ?_
            rintro e W3 (⟨rfl, hJ3, hk3⟩ | ⟨rfl, hJx3⟩)
          all_goals gi_wp2
          all_goals
            first
            | (go_roundw
               case rel => exact ⟨k + 1, by omega, by simp; omega, by rw [map_range_succ]; exact hJ3, hnx.trans hk3⟩
               case measure => simp [intOf]; omega)
            | (refine bodyPost_ret (results_none rfl _ _ _) rfl ?_
               exact ⟨⟨_, rfl⟩, .inr ⟨_, trivial, hJx3⟩⟩)
    · have e8 : (s.length + 7) / 8 = k := by omega
      gi_wp2
      go_end0
      exact ⟨⟨_, rfl⟩, .inl ⟨_, rfl, by unfold wordsF; rw [e8]; exact hJs⟩⟩
set_option maxHeartbeats 1000000 in
theorem wordsB_in (F : Fence) (n : Nat) (h5 : F.fn 58) (hro : F.round = none) (A : Option Addr) (len cap : Nat) (w : World) :
    CallsIn F n Try.prog 58 #[.slice A len cap] w fun e w' => e = .returned (.func (.func 70) #[] #[.pointer (some ⟨w.heap.size, 0, none⟩)]) ∧ w' = w.alloc (.cells #[.slice A len cap] 27) := by
  refine callsIn_of_wp Try.func58 rfl h5 ?_ hro
  simp only [Try.ntmps58, List.size_toArray, List.length_cons, List.length_nil, Nat.reduceAdd, Nat.reduceSub, Array.replicate_succ, Array.replicate_zero, List.push_toArray, List.append_toArray, List.nil_append, List.cons_append]
  gi_wp2
  go_ret
  exact ⟨rfl, rfl⟩

theorem wordsB_stops (F : Fence) (n : Nat) (h7 : F.fn 70) (hro : F.round = none) (hn : 1 ≤ n) (Bs n₀ : Nat) (A : Option Addr) (cap : Nat) (s : List Int) (hs : ∀ j, 0 ≤ rdN s j ∧ rdN s j ≤ 255) (hreach : s.length ≤ 140737488351232) (w0 w : World) (hw0 : w0.heap.size ≤ n₀) (hw : Below w0.heap.size w0 w) (hC : Kd.C (Kd.int .u8) w0 A s.length s) (hBs : Bs < w.heap.size)
    (hc : w.cell? ⟨Bs, 0, none⟩ = some (.slice A s.length cap)) :
    SeqStopsK F n Try.prog 70 #[.pointer (some ⟨Bs, 0, none⟩)] (fun x : Int => #[Value.int .u64 x]) (KB n₀ Bs) (fun ys => ys = wordsF (rdN s) s.length) (fun _ => True) ((s.length + 7) / 8) w := fun l J Jx W hW _ _ hY h0 => by
  have hc' := (hW.cell (p := ⟨Bs, 0, none⟩) hBs).trans hc
  exact (wordsB1_in F n h7 hro hn l Bs n₀ A cap s hs hreach w0 hw0 hC J Jx hY W (hw.trans (hW.mono hw.size)) hc' h0).mono fun e W' ⟨he, hj⟩ => ⟨he, hj⟩

theorem infoInt : (Try.prog.info? 3).map (fun i => (i.zero, i.size, i.bytes)) = some (some (.int .i64 0), 1, 8) := by kernel_rfl

set_option maxRecDepth 100000 in
set_option maxHeartbeats 2000000 in
theorem bytes_in (F : Fence) (n : Nat) (h25 : F.fn 34) (h44 : F.fn 58) (h60 : F.fn 70) (h45 : F.fn 59) (h61 : F.fn 71) (h74 : F.fn 80) (h62 : F.fn 72) (hro : F.round = none) (hn : 5 ≤ n)
    (s : ByteArray) (hreach : s.size ≤ 140737488351232) (A : Option Addr) (cap : Nat) (b : List Int) (hb255 : ∀ j, 0 ≤ rdN b j ∧ rdN b j ≤ 255) (hbl : b.length ≤ 70368744177664) (w : World) (hC : Kd.C (Kd.int .u8) w A b.length b) :
    CallsIn F n Try.prog 34 #[.string s, .slice A b.length cap] w fun e w' => e = .returned (.int .u64 (sumL (wordsF (bsN s) s.size) s.size ((wordsF (rdN b) b.length).map (fun x => wrap64 x) ++ [(b.length : Int)]))) ∧ Below w.heap.size w w' := by
  have h1 : 1 ≤ n := by omega
  have h3 : 1 ≤ n - 1 - 1 := by omega
  obtain ⟨i0, hi, hz0, hz1, hz2⟩ := info_parts infoInt
  refine callsIn_of_wp_marks Try.func34 rfl h25 ?_ hro
  simp only [Try.ntmps34, List.size_toArray, List.length_cons, List.length_nil, Nat.reduceAdd, Nat.reduceSub, Array.replicate_succ, Array.replicate_zero, List.push_toArray, List.append_toArray, List.nil_append, List.cons_append]
  gi_wp2_with (gi_at_call 58; refine (wordsB_in F (n - 1) h44 hro _ _ _ _).mono ?_; rintro e w' ⟨rfl, rfl⟩)
  have bO := Boxed.new w 33 (.slice none 0 0)
  have bN := Boxed.new (w.alloc (.cells #[.slice none 0 0] 33)) 27 (.slice A b.length cap)
  rw [World.size_alloc] at bN
  have hB0 : Below w.heap.size w ((w.alloc (.cells #[.slice none 0 0] 33)).alloc (.cells #[.slice A b.length cap] 27)) := ((Below.refl _ w).alloc (Nat.le_refl _) _).alloc (by simp) _
  have hwl := wordsF_length (rdN b) b.length
  refine wpIn_rangeFunc_ownG hro h1 (gf := 70) (lb := #[.pointer (some ⟨w.heap.size + 1, 0, none⟩)]) rfl h60 (enters_of Try.func70 (by kernel_rfl) rfl)
    (wordsB_stops F (n - 1) h60 hro (by omega) (w.heap.size + 1) w.heap.size A cap b hb255 (by omega) w _ (Nat.le_refl _) hB0 hC (by simp) bN.cell) KB.trans (KB.putObj (by simp; omega) (by simp)) (Below.refl _ _) (fun _ => rfl)
    (fun pre W => ((∃ v, Boxed W w.heap.size 33 v ∧ W.ownsRow w.heap.size 3 1 v pre.length (pre.map fun x => Value.int .i64 (wrap64 x)) ∧ True) ∧ Boxed W (w.heap.size + 1) 27 (.slice A b.length cap)) ∧ Below w.heap.size w W)
    (fun _ _ _ => False)
    (OwnFrom.and (OwnFrom.and (Own.from (holdsRow_own w.heap.size w.heap.size 33 3 1 (fun pre : List Int => pre.length) (fun pre => pre.map fun x => Value.int .i64 (wrap64 x)) (fun _ _ => True)) _) (Own.from (boxed_own _ _ _) _)) (ownFrom_below (Nat.le_refl _) (by simp; omega)))
    (fun _ _ _ _ _ hs _ _ => hs)
    ⟨⟨⟨_, bO.alloc _, World.ownsRow_nil _ _ _ _, trivial⟩, bN⟩, hB0⟩
    ?a1 ?assign ?body ?done ?stop
  case assign =>
    intro l x W K hK
    gi_wp2
    exact hK
  case body =>
    rintro l pre x W ⟨⟨⟨v, hv, hrow, -⟩, hbx⟩, hB⟩ hlt
    have hc := hv.cell
    gi_wp2_with (gi_at_builtin; refine wpListIn_append_own _ rfl _ _ 33 rfl w.heap.size 3 i0 (.int .i64 0) 1 8 Try.underlying33 hi hz0 hz1 hz2 rfl (by decide) _ _ _ rfl (hrow.alloc _) ⟨W.heap.size, 0, none⟩ 1 1 [.int .i64 (wrap64 x)] rfl rfl (cell_one_new _ _ _) (by simp [Value.oneCell']) (by unfold maxLen; omega) (by omega) (by have := hB.size; simp; omega) ?_; intro v' w1 hown' hgrow _; obtain ⟨g', cap', rfl⟩ := ownsRow_succ hown'; obtain ⟨hv1, hv2, hr2, hk2, hb2⟩ := hv.appended (by decide) hrow hB.size (Nat.le_refl _) hown' hgrow; have hc1 := hv1.cell; have hf1 := hv1.frozen)
    have hx1 := ((hbx.alloc _).kept hgrow (hbx.not_row (by decide) hrow)).other (B' := w.heap.size) (by omega) (.slice (some ⟨g', 0, none⟩) (pre.length + 1) cap')
    refine ⟨hk2.from _, ⟨hb2, hx1.trans hbx.symm⟩, ⟨⟨_, hv2, ?_, trivial⟩, hx1⟩, hB.trans hb2⟩
    simpa using hr2
  case done =>
    rintro D ys W hD rfl ⟨⟨⟨v, hv, hrow, -⟩, hbx⟩, hB⟩ hK
    have hc := hv.cell
    have hfin : W.ownsRow w.heap.size 3 1 v (wordsF (rdN b) b.length).length (nums .i64 ((wordsF (rdN b) b.length).map fun x => wrap64 x)) := by simpa [nums, Function.comp_def] using hrow
    have hblk := hrow
    clear hrow
    have hDD : w.heap.size ≤ D := by simp at hD; omega
    gi_wp2_with (first
      | (gi_at_builtin; refine wpListIn_append_own _ rfl _ _ 33 rfl w.heap.size 3 i0 (.int .i64 0) 1 8 Try.underlying33 hi hz0 hz1 hz2 rfl (by decide) _ _ _ rfl (hfin.alloc _) ⟨W.heap.size, 0, none⟩ 1 1 [.int .i64 (b.length : Int)] rfl rfl (cell_one_new _ _ _) (by simp [Value.oneCell']) (by unfold maxLen; omega) (by omega) (by have := hB.size; simp; omega) ?_; intro v' w1 hown' hgrow _; obtain ⟨hv1, hv2, hr2, hk2, hb2⟩ := hv.appended (by decide) hfin hB.size (Nat.le_refl _) hown' hgrow)
      | fail)
    have hgrow' : (W.alloc (.cells #[.int .i64 (b.length : Int)] 3)).grownBy w1 v.ownBlock := hgrow
    have hlt : D < W.heap.size := (Array.getElem?_eq_some_iff.1 hK).1
    have hne : some D ≠ v.ownBlock := fun e => by
      obtain ⟨cells, hcl⟩ := own_typed hfin D e.symm
      rw [hK] at hcl
      cases hcl
    have hK1 : w1.heap[D]? = some (.deferred (some [])) := (hgrow'.block D (by simp; omega) hne).trans ((Below.heap_alloc _ _ _ hlt).trans hK)
    have hB1 : Below w.heap.size w w1 := (hB.alloc hB.size _).grown hgrow' (by have := hB.size; simp; omega) (own_base hfin)
    have hRR : (Kd.int .i64).R 3 w1 w.heap.size (fun _ => True) v' ((wordsF (rdN b) b.length).map (fun x => wrap64 x) ++ [(b.length : Int)]) := Kd.R_of_own (by simpa [nums, encs] using hown') (fun _ _ => trivial)
    obtain ⟨A', c', rfl, _, hC'⟩ := Kd.R_reads hRR
    refine (sum_in F _ h45 h61 h74 h62 hro (by omega) s hreach A' c' _ w1 hC').mono ?_
    rintro e w2 ⟨rfl, hB2⟩
    have hK2 : w2.heap[D]? = some (.deferred (some [])) := (hB2.block D (Array.getElem?_eq_some_iff.1 hK1).1).trans hK1
    gi_wp2
    refine ⟨by simp, .inl ⟨_, _, rfl, run_takeDeferred hK2, ?_⟩⟩
    exact ⟨_, results_tmp rfl _ _ _, rfl, (hB1.trans (hB2.mono hB1.size)).trans (belowK_b (w := w) (Nat.le_refl _) _ D _ _ hDD hK2 rfl rfl)⟩
  case stop =>
    rintro D c pre W _ _ h _
    exact h.elim

theorem bytes_calls (s : ByteArray) (hreach : s.size ≤ 140737488351232) (A : Option Addr) (cap : Nat) (b : List Int) (hb255 : ∀ x ∈ b, 0 ≤ x ∧ x ≤ 255) (hbl : b.length ≤ 70368744177664) (w : World) (hC : Kd.C (Kd.int .u8) w A b.length b) :
    Calls Try.prog 34 #[.string s, .slice A b.length cap] w fun e w' => e = .returned (.int .u64 (bytesH s b)) ∧ Below w.heap.size w w' :=
  callsIn_wide.1 (bytes_in Fence.wide 5 trivial trivial trivial trivial trivial trivial trivial rfl (Nat.le_refl _) s hreach A cap b (rdN_range b hb255) hbl w hC)

end Go.Proofs.Ytjnbbmiccbjjbaa.Hash
