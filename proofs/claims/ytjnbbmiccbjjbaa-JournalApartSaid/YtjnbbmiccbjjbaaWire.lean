/- The writer of package wire: what its methods append. -/
import Derived.RangeFuncBox
import Derived.WalkKit
import Derived.OwnWalk
import Derived.Outline
import Derived.Lib.Hide
import Derived.WalkSpells
import Derived.Maps.AppendAt
import Derived.Test.YtjnbbmiccbjjbaaMa
import Derived.Test.YtjnbbmiccbjjbaaProg
import Derived.Test.YtjnbbmiccbjjbaaWWords
import Derived.Test.YtjnbbmiccbjjbaaWLast
import Derived.Test.YtjnbbmiccbjjbaaWMore
namespace Go.Proofs.Ytjnbbmiccbjjbaa.Wire
open Go.RowKit Go.Proofs Go.Proofs.Ytjnbbmiccbjjbaa.Ma Go.Proofs.YtjnbbmiccbjjbaaW.PrintWords Go.Proofs.YtjnbbmiccbjjbaaW.PrintLast

/-- Below base, but for block B, the world is as it was. -/
structure KX (B base : Nat) (W W' : World) : Prop where
  os : W'.os = W.os
  tape : W'.tape = W.tape
  output : W'.output = W.output
  size : W.heap.size ≤ W'.heap.size
  block : ∀ k, k < base → k ≠ B → W'.heap[k]? = W.heap[k]?
theorem KX.refl (B base : Nat) (W : World) : KX B base W W := ⟨rfl, rfl, rfl, Nat.le_refl _, fun _ _ _ => rfl⟩
theorem KX.trans {B base : Nat} {W1 W2 W3 : World} (h : KX B base W1 W2) (k : KX B base W2 W3) : KX B base W1 W3 :=
  ⟨k.os.trans h.os, k.tape.trans h.tape, k.output.trans h.output, Nat.le_trans h.size k.size, fun i hi hn => (k.block i hi hn).trans (h.block i hi hn)⟩
theorem KX.mono {B base base' : Nat} {W W' : World} (h : KX B base W W') (hb : base' ≤ base) : KX B base' W W' := ⟨h.os, h.tape, h.output, h.size, fun k hk => h.block k (Nat.lt_of_lt_of_le hk hb)⟩
theorem KX.of_below {B base : Nat} {W W' : World} (h : Below base W W') : KX B base W W' := ⟨h.os, h.tape, h.output, h.size, fun k hk _ => h.block k hk⟩
theorem KX.below {B base n : Nat} {W W' : World} (h : KX B base W W') (hb : n ≤ base) (hB : n ≤ B) : Below n W W' := ⟨h.os, h.tape, h.output, h.size, fun k hk => h.block k (by omega) (by omega)⟩

/-- Block B is a writer that has collected the bytes l; they lie in a block from base on. -/
def Wtr (W : World) (B base : Nat) (l : List Int) : Prop := ∃ v, Boxed W B 98 v ∧ W.ownsRow base 5 1 v l.length (nums .u8 l)

theorem Wtr.nil {W : World} {B base : Nat} (h : Boxed W B 98 (.slice none 0 0)) : Wtr W B base [] := ⟨_, h, own_nil _ _ _ _⟩
theorem Wtr.lt {W : World} {B base : Nat} {l : List Int} (h : Wtr W B base l) : B < W.heap.size := by obtain ⟨v, hv, _⟩ := h; exact hv.lt
/-- Whatever is written elsewhere leaves a writer as it was. -/
theorem Wtr.below {W W' : World} {B base : Nat} {l : List Int} (h : Wtr W B base l) (hb : Below W.heap.size W W') : Wtr W' B base l := by
  obtain ⟨v, hv, ho⟩ := h
  exact ⟨v, (hb.block B hv.lt).trans hv, pw_own_below ho hb⟩
theorem Wtr.kx {W W' : World} {B B' base base' : Nat} {l : List Int} {u : Value} (h : Wtr W B base l) (hk : KX B' base' W W') (hne : B ≠ B') (hs : W.heap.size ≤ base') (hB' : Boxed W B' 98 u) : Wtr W' B base l := by
  obtain ⟨v, hv, ho⟩ := h
  refine ⟨v, (hk.block B (Nat.lt_of_lt_of_le hv.lt hs) hne).trans hv, own_move ho (fun k hk' => hk.block k (Nat.lt_of_lt_of_le (own_lt ho k hk') hs) (fun e => ?_))⟩
  subst e
  exact hB'.not_row (by decide) ho hk'.symm
theorem Wtr.lower {W : World} {B base base' : Nat} {l : List Int} (h : Wtr W B base l) (hb : base' ≤ base) : Wtr W B base' l := by
  obtain ⟨v, hv, ho⟩ := h
  exact ⟨v, hv, own_weaken ho hb⟩

theorem info8 : (Try.prog.info? 5).map (fun i => (i.zero, i.size, i.bytes)) = some (some (.int .u8 0), 1, 1) := by kernel_rfl

/-- Behind an append to the writer's bytes, and the store of what it gave. -/
theorem Wtr.put {W w1 : World} {B base : Nat} {v v1 : Value} {xs ys : List Int} (hv : Boxed W B 98 v) (ho : W.ownsRow base 5 1 v xs.length (nums .u8 xs)) (hb : base ≤ W.heap.size)
    (ho1 : w1.ownsRow base 5 1 v1 ys.length (nums .u8 ys)) (hg : W.grownBy w1 v.ownBlock) :
    Boxed w1 B 98 v ∧ Wtr (w1.setCell ⟨B, 0, none⟩ v1) B base ys ∧ KX B base W (w1.setCell ⟨B, 0, none⟩ v1) := by
  have hv1 : Boxed w1 B 98 v := hv.kept hg (hv.not_row (by decide) ho)
  refine ⟨hv1, ⟨v1, hv1.set v1, ho1.kept (grownBy_setCell' w1 B v1) (.inr (hv1.not_row (by decide) ho1).symm)⟩, ?_⟩
  refine KX.trans (W2 := w1) ⟨hg.os, hg.tape, hg.output, hg.size, fun k hk hn => hg.block k (by omega) (fun e => by have := own_base ho k e.symm; omega)⟩ ⟨rfl, rfl, rfl, (grownBy_setCell' w1 B v1).size, fun k hk hn => (Below.heap_setCell _ _ _ _ hn)⟩

/-- What a method of a writer does: the bytes bs are appended. -/
def Adds (W : World) (B base : Nat) (l bs : List Int) (e : Ending) (W' : World) : Prop := e = .returned (.tuple #[]) ∧ Wtr W' B base (l ++ bs) ∧ KX B base W W'

set_option maxRecDepth 100000 in
set_option maxHeartbeats 2000000 in
theorem uint_calls (B base : Nat) (l : List Int) (n0 : Nat) (hn0 : n0 < 18446744073709551616) (w : World) (hW : Wtr w B base l) (hb : base ≤ w.heap.size) (hl : l.length + 10 ≤ 140737488355328) :
    Calls Try.prog 64 #[.pointer (some ⟨B, 0, none⟩), .int .u64 n0] w (Adds w B base l (vint n0)) := by
  have hvl := vint_length n0 hn0
  go_enter Try.func64, Try.ntmps64
  go_wp2
  go_loopw [1] (fun i wr => ∃ (m : Nat) (pre : List Int), i = .int .u64 m ∧ m ≤ n0 ∧ Wtr wr B base (l ++ pre) ∧ Hid (pre ++ vint m = vint n0) ∧ KX B base w wr) (fun i _ => (intOf i).toNat)
  case atStart => exact ⟨n0, [], rfl, Nat.le_refl _, by simpa using hW, Lib.hid (by simp), KX.refl _ _ _⟩
  case round =>
    obtain ⟨m, pre, rfl, hm, ⟨v, hv, ho⟩, hp, hk⟩ := hrel
    have hsz : base ≤ wr.heap.size := Nat.le_trans hb hk.size
    have hc := hv.cell
    have hf := hv.frozen
    have hpl : pre.length + (vint m).length ≤ 10 := by rw [← List.length_append, hp.out]; exact hvl
    have hvp := vint_pos m
    by_cases hs : 128 ≤ m
    · have hor := or128 m
      have hvb := vint_big m (by omega)
      have Hvb := Lib.hid hvb
      have HW := Lib.hid hor
      clear hvb hor
      go_wp2_with (at_builtin; refine print_append_num (w0 := wr) base rfl _ _ 27 5 .u8 1 rfl Try.underlying27 info8 (by decide) v (l ++ pre) _ rfl rfl ho (Below.refl _ _) hsz (by simp; omega) ?_; intro v1 w1 ho1 _ hg1 _; obtain ⟨hv1, hw1, hk1⟩ := Wtr.put hv ho hsz ho1 hg1; have hc1 := hv1.cell; have hf1 := hv1.frozen; rw [List.length_append, List.length_singleton] at ho1; obtain ⟨g', cap', rfl⟩ := ownsRow_succ ho1; rw [List.length_append] at hw1 hk1; clear hc hf)
      go_roundw
      case rel => exact ⟨m / 128, pre ++ [((m % 128 + 128 : Nat) : Int)], by simp, by omega, by rw [← List.append_assoc, ← HW.out]; exact hw1, Lib.hid (by rw [List.append_assoc, List.singleton_append, ← Hvb.out, hp.out]), hk.trans hk1⟩
      case measure => simp [intOf]; omega
    · have hvb := vint_small m (by omega)
      have Hvb := Lib.hid hvb
      clear hvb
      go_wp2_with (at_builtin; refine print_append_num (w0 := wr) base rfl _ _ 27 5 .u8 1 rfl Try.underlying27 info8 (by decide) v (l ++ pre) _ rfl rfl ho (Below.refl _ _) hsz (by simp; omega) ?_; intro v1 w1 ho1 _ hg1 _; obtain ⟨hv1, hw1, hk1⟩ := Wtr.put hv ho hsz ho1 hg1; have hc1 := hv1.cell; have hf1 := hv1.frozen; rw [List.length_append, List.length_singleton] at ho1; obtain ⟨g', cap', rfl⟩ := ownsRow_succ ho1; rw [List.length_append] at hw1 hk1; clear hc hf)
      go_end0
      refine ⟨rfl, ?_, hk.trans hk1⟩
      rw [← hp.out, Hvb.out, ← List.append_assoc]
      exact hw1

theorem zigzag_calls (n : Int) (hn : -9223372036854775808 ≤ n ∧ n ≤ 9223372036854775807) (w : World) :
    Calls Try.prog 84 #[.int .i64 n] w fun e w' => e = .returned (.int .u64 (zz n)) ∧ w = w' := by
  go_enter Try.func84, Try.ntmps84
  go_wp2
  rw [zigzag_eq n hn]
  go_ret
  exact ⟨rfl, rfl⟩

theorem wzz_lt (n : Int) (hn : -9223372036854775808 ≤ n ∧ n ≤ 9223372036854775807) : zz n < 18446744073709551616 := by unfold zz; split <;> omega

theorem int_calls (B base : Nat) (l : List Int) (n : Int) (hn : -9223372036854775808 ≤ n ∧ n ≤ 9223372036854775807) (w : World) (hW : Wtr w B base l) (hb : base ≤ w.heap.size) (hl : l.length + 10 ≤ 140737488355328) :
    Calls Try.prog 74 #[.pointer (some ⟨B, 0, none⟩), .int .i64 n] w (Adds w B base l (vint (zz n))) := by
  go_enter Try.func74, Try.ntmps74
  go_wp2_with (first | (go_at_call 84; refine (zigzag_calls n hn _).mono ?_; rintro e w' ⟨rfl, rfl⟩) | (go_at_call 64; refine (uint_calls B base l (zz n) (wzz_lt n hn) _ hW hb hl).mono ?_; rintro e w' ⟨rfl, hw1, hk1⟩))
  go_end0
  exact ⟨rfl, hw1, hk1⟩

set_option maxRecDepth 100000 in
set_option maxHeartbeats 2000000 in
theorem text_calls (B base : Nat) (l : List Int) (s : ByteArray) (w : World) (hW : Wtr w B base l) (hb : base ≤ w.heap.size) (hl : l.length + s.size + 10 ≤ 140737488355328) :
    Calls Try.prog 75 #[.pointer (some ⟨B, 0, none⟩), .string s] w (Adds w B base l (vint s.size ++ bytesOf s)) := by
  have hvl := vint_length s.size (by omega)
  have hvp := vint_pos s.size
  go_enter Try.func75, Try.ntmps75
  go_wp2_with (first
    | (go_at_call 64; refine (uint_calls B base l s.size (by omega) _ hW hb (by omega)).mono ?_; rintro e w1 ⟨rfl, hw1, hk1⟩; obtain ⟨v, hv, ho⟩ := hw1; have hsz : base ≤ w1.heap.size := Nat.le_trans hb hk1.size; have hc := hv.cell; have hf := hv.frozen)
    | (at_builtin; refine print_append_str (w0 := w1) base rfl _ _ 27 9 5 rfl Try.underlying27 Try.underlying9 info8 v (l ++ vint s.size) s rfl rfl ho (Below.refl _ _) hsz (by simp; omega) ?_; intro v1 w2 ho1 _ hg1; obtain ⟨hv1, hw2, hk2⟩ := Wtr.put hv ho hsz ho1 hg1; have hc1 := hv1.cell; have hf1 := hv1.frozen; obtain ⟨A1, c1, rfl⟩ := own_slice ho1; generalize (l ++ vint s.size ++ bytesOf s).length = L at hw2 hk2 ⊢; clear ho1 hg1 hc hf))
  go_end0
  refine ⟨rfl, ?_, hk1.trans hk2⟩
  rw [← List.append_assoc]
  exact hw2

theorem bytesOf_strOfNums (b : List Int) (h : ∀ x ∈ b, 0 ≤ x ∧ x ≤ 255) : bytesOf (strOfNums b) = b := by
  unfold bytesOf
  rw [strOfNums_data, List.map_map]
  conv => rhs; rw [← List.map_id b]
  apply List.map_congr_left
  intro x hx
  have := h x hx
  simp
  omega

set_option maxHeartbeats 1000000 in
theorem raw_calls (B base : Nat) (l : List Int) (A : Option Addr) (cap : Nat) (b : List Int) (hb255 : ∀ x ∈ b, 0 ≤ x ∧ x ≤ 255) (w : World) (hW : Wtr w B base l) (hb : base ≤ w.heap.size) (hC : Kd.C (Kd.int .u8) w A b.length b) (hl : l.length + b.length + 10 ≤ 140737488355328) :
    Calls Try.prog 63 #[.pointer (some ⟨B, 0, none⟩), .slice A b.length cap] w (Adds w B base l (rawL b)) := by
  have hconv : ∀ W : World, Kd.C (Kd.int .u8) W A b.length b → (convert 27 9 (.slice A b.length cap)).run Try.prog W = .ok (.string (strOfNums b)) W := fun W h => Kd.C_string Try.underlying27 Try.underlying5 Try.underlying9 h
  have hc := hconv w hC
  have hsz : (strOfNums b).size = b.length := strOfNums_size b
  have hby : bytesOf (strOfNums b) = b := bytesOf_strOfNums b hb255
  go_enter Try.func63, Try.ntmps63
  go_wp2_with (go_at_call 75; refine (text_calls B base l (strOfNums b) _ hW hb (by omega)).mono ?_; rintro e w1 ⟨rfl, hw1, hk1⟩)
  go_end0
  rw [hsz, hby] at hw1
  exact ⟨rfl, hw1, hk1⟩

set_option maxRecDepth 100000 in
set_option maxHeartbeats 2000000 in
theorem clone_calls (A : Option Addr) (cap : Nat) (l : List Int) (w : World) (hC : Kd.C (Kd.int .u8) w A l.length l) (hl : l.length ≤ 140737488355328) :
    Calls Try.prog 44 #[.slice A l.length cap] w fun e w' => ∃ v, e = .returned v ∧ Kd.R (Kd.int .u8) 5 w' w.heap.size (fun _ => True) v l ∧ Below w.heap.size w w' := by
  have he := fun (W : World) (n c : Nat) => Lib.run_eql_slice_nil (P := Try.prog) W 27 5 A n c 0 0 Try.underlying27
  cases A with
  | none =>
    have h0 : l = [] := by
      rcases Nat.eq_zero_or_pos l.length with h | h
      · exact List.eq_nil_of_length_eq_zero h
      · obtain ⟨ad, e, _⟩ := hC.2.2 h
        cases e
    subst h0
    go_enter Try.func44, Try.ntmps44
    go_wp2
    go_ret
    exact ⟨_, rfl, Kd.R_nil _ _ _ _ _, Below.refl _ _⟩
  | some ad =>
    have HC := Lib.hid hC
    clear hC
    go_enter Try.func44, Try.ntmps44
    have HO : Kd.R (Kd.int .u8) 5 (w.alloc (.cells #[] 5)) w.heap.size (fun _ => True) (.slice (some ⟨w.heap.size, 0, none⟩) 0 0) ([] : List Int) :=
      Kd.R_of_own (World.ownsRow_lit w #[] 0 (Nat.le_refl _) (by decide) (by decide)) (fun _ _ => trivial)
    have HO' := Lib.hid HO
    clear HO
    go_wp2_with (at_builtin; refine Kd.R_append_rows (Kd.int .u8) (Rr := (Kd.int .u8).K (w.alloc (.cells #[] 5))) (w0 := w) w.heap.size rfl _ _ 27 5 (.int .u8 0) 1 rfl Try.underlying27 info8 rfl (by decide) (by decide) _ [] l (some ad) l.length cap (fun _ => True) (fun _ => False) rfl rfl HO'.out (Kd.C_alloc HC.out _) (fun _ _ h => h) (fun _ h => h.elim) (fun _ _ => trivial) ((Below.refl _ _).alloc (Nat.le_refl _) _) (by simp) (by simp; omega) ?_; intro v1 w1 ho hb hg _)
    go_ret
    exact ⟨_, rfl, by simpa using ho, hb⟩

set_option maxHeartbeats 1000000 in
theorem done_calls (B base : Nat) (l : List Int) (w : World) (hW : Wtr w B base l) (hl : l.length ≤ 140737488355328) :
    Calls Try.prog 65 #[.pointer (some ⟨B, 0, none⟩)] w fun e w' => ∃ v, e = .returned v ∧ Kd.R (Kd.int .u8) 5 w' w.heap.size (fun _ => True) v l ∧ Below w.heap.size w w' := by
  obtain ⟨v, hv, ho⟩ := hW
  obtain ⟨A, c, rfl, _, hC⟩ := Kd.R_reads (Kd.R_of_own (h1 := fun _ => rfl) (enc := Value.int .u8) (ok := fun _ => True) ho (fun _ _ => trivial))
  have hc := hv.cell
  go_enter Try.func65, Try.ntmps65
  go_wp2_with (go_at_call 44; refine (clone_calls A c l w hC hl).mono ?_; rintro e w' ⟨v1, rfl, hr, hb⟩)
  go_ret
  exact ⟨_, rfl, hr, hb⟩

end Go.Proofs.Ytjnbbmiccbjjbaa.Wire
