/- A disk with logs, of a law's own, bundled with what the law keeps beside it. -/
import Derived.Test.YtjnbbmiccbjjbaaBun
import Derived.Test.YtjnbbmiccbjjbaaRows8a
namespace Go.Proofs.Ytjnbbmiccbjjbaa.Jnl
open Go.RowKit Go.Proofs Go.Proofs.Ytjnbbmiccbjjbaa.Ma Go.Proofs.Ytjnbbmiccbjjbaa.Wire Go.Proofs.Ytjnbbmiccbjjbaa.Rdr Go.Proofs.Ytjnbbmiccbjjbaa.MapI Go.Proofs.Ytjnbbmiccbjjbaa.Scan Go.Proofs.Ytjnbbmiccbjjbaa.Few Go.Proofs.Ytjnbbmiccbjjbaa.Ref07 Go.Proofs.Ytjnbbmiccbjjbaa.Lives7 Go.Proofs.Ytjnbbmiccbjjbaa.Fr7 Go.Proofs.Ytjnbbmiccbjjbaa.Disk Go.Proofs.YtjnbbmiccbjjbaaW.PrintWords Go.Proofs.YtjnbbmiccbjjbaaW.PrintLast

/-- The disk d in block B (its blocks: D), the logs ls of it, and the blocks S, which are as they were in wX. -/
structure JW (n : Nat) (w0 wX : World) (S D : Nat → Prop) (B : Nat) (d : Dsk) (ls : List (Nat × Int × Int × Bool)) (W : World) : Prop where
  dw : DW n w0 D B d W
  keep : ∀ k, S k → W.heap[k]? = wX.heap[k]?
  apart : ∀ k, S k → k < W.heap.size ∧ ¬ D k ∧ ∀ x ∈ ls, x.1 ≠ k
  logs : ∀ x ∈ ls, Lg W x.1 B x.2.1 x.2.2.1 x.2.2.2 ∧ ¬ D x.1 ∧ n ≤ x.1
  nd : (ls.map (fun x => x.1)).Nodup
def JS (n : Nat) (w0 wX : World) (S : Nat → Prop) (B : Nat) (d : Dsk) (ls : List (Nat × Int × Int × Bool)) (W : World) : Prop := ∃ D, JW n w0 wX S D B d ls W

section
variable {n B : Nat} {w0 wX W W' : World} {S D : Nat → Prop} {d : Dsk} {ls : List (Nat × Int × Int × Bool)}
theorem JW.grow (h : JW n w0 wX S D B d ls W) (hb : Below W.heap.size W W') : JW n w0 wX S D B d ls W' :=
  ⟨h.dw.grow hb, fun k hk => (hb.block k (h.apart k hk).1).trans (h.keep k hk), fun k hk => ⟨Nat.lt_of_lt_of_le (h.apart k hk).1 hb.size, (h.apart k hk).2⟩, fun x hx => ⟨(hb.block x.1 (lt_of (h.logs x hx).1)).trans (h.logs x hx).1, (h.logs x hx).2⟩, h.nd⟩
theorem JS.grow (h : JS n w0 wX S B d ls W) (hb : Below W.heap.size W W') : JS n w0 wX S B d ls W' := by obtain ⟨D, h⟩ := h; exact ⟨D, h.grow hb⟩
theorem JS.low (h : JS n w0 wX S B d ls W) : Below n w0 W := by obtain ⟨D, h⟩ := h; exact h.dw.low
theorem JS.size (h : JS n w0 wX S B d ls W) : n ≤ W.heap.size := by obtain ⟨D, h⟩ := h; exact h.dw.size
theorem JS.keep (h : JS n w0 wX S B d ls W) : ∀ k, S k → W.heap[k]? = wX.heap[k]? := by obtain ⟨D, h⟩ := h; exact h.keep
theorem JS.ok (h : JS n w0 wX S B d ls W) : DOk d := by obtain ⟨D, h⟩ := h; exact h.dw.ok
/-- The same, with what has been made since then among what is kept. -/
theorem JS.news (h : JS n w0 wX S B d ls W) (hb : Below W.heap.size W W') : JS n w0 W' (fun k => S k ∨ (W.heap.size ≤ k ∧ k < W'.heap.size)) B d ls W' ∧ ∀ k, S k → W'.heap[k]? = wX.heap[k]? := by
  obtain ⟨D, h⟩ := h
  have h2 := h.grow hb
  refine ⟨⟨D, h2.dw, fun _ _ => rfl, fun k hk => ?_, h2.logs, h2.nd⟩, h2.keep⟩
  rcases hk with hk | hk
  · exact h2.apart k hk
  · exact ⟨hk.2, fun e => by have := h.dw.dk.lt k e; omega, fun x hx e => by have := lt_of (h.logs x hx).1; omega⟩
theorem JW.post {d' : Dsk} (h : JW n w0 wX S D B d ls W) (hp : DP n w0 D B d' W W') : JS n w0 wX S B d' ls W' := by
  obtain ⟨D', hd, h1, h2, hk⟩ := hp
  have hs : ∀ k, k < W.heap.size → ¬ D k → ¬ D' k := fun k hlt hn e => (h2 k e).elim hn (fun e => by omega)
  refine ⟨D', hd, fun k hS => (hk.block k (h.apart k hS).1 (h.apart k hS).2.1).trans (h.keep k hS), fun k hS => ⟨Nat.lt_of_lt_of_le (h.apart k hS).1 hk.size, hs k (h.apart k hS).1 (h.apart k hS).2.1, (h.apart k hS).2.2⟩, fun x hx => ?_, h.nd⟩
  have hl := lt_of (h.logs x hx).1
  exact ⟨(hk.block x.1 hl (h.logs x hx).2.1).trans (h.logs x hx).1, hs x.1 hl (h.logs x hx).2.1, (h.logs x hx).2.2⟩

theorem fresh_j (n : Nat) (w0 W : World) (h0 : Below n w0 W) (hn : n ≤ W.heap.size) (room : Int) (h1 : ¬ room < 0) (h2 : ¬ 16777216 < room) :
    Calls Try.prog 35 #[.int .i64 room] W fun e W' => ∃ B, e = .returned (.pointer (some ⟨B, 0, none⟩)) ∧ JS n w0 W' (fun _ => False) B (newDsk room) [] W' := by
  have HN := Lib.hid (new_b n w0 W h0 hn room h1 h2)
  clear h0 hn
  go_enter Try.func35, Try.ntmps35
  go_wp2_with fail
  refine HN.out.mono ?_
  rintro e w1 ⟨B, D, rfl, hd, -, -⟩
  have HD := Lib.hid hd
  clear hd
  go_wp2
  go_ret
  exact ⟨B, rfl, D, HD.out, fun _ h => h.elim, fun _ h => h.elim, (fun x hx => by cases hx), List.nodup_nil⟩
theorem arm_j (h : JS n w0 wX S B d ls W) (k : Int) (hk : k ≤ 9223372036854775807) :
    Calls Try.prog 30 #[.pointer (some ⟨B, 0, none⟩), .int .i64 k] W fun e W' => e = .returned (.tuple #[]) ∧ JS n w0 wX S B (armD d k) ls W' := by
  obtain ⟨D, h⟩ := h
  exact (arm_b h.dw k hk).mono fun e W' ⟨h1, h2⟩ => ⟨h1, h.post h2⟩
theorem app_j (h : JS n w0 wX S B d ls W) (k : Int) (hk : -9223372036854775808 ≤ k ∧ k ≤ 9223372036854775807) (A : Option Addr) (c m : Nat) (bs : List Int) (hm : bs.length = m) (hb : ∀ x ∈ bs, 0 ≤ x ∧ x ≤ 255) (hbl : m ≤ 70368744177664) (hC : Kd.C (Kd.int .u8) W A bs.length bs) :
    Calls Try.prog 16 #[.pointer (some ⟨B, 0, none⟩), .int .i64 k, .slice A m c] W fun e W' => e = .returned (.int .i64 (appendD d k bs).1) ∧ JS n w0 wX S B (appendD d k bs).2 ls W' := by
  obtain ⟨D, h⟩ := h
  exact (append_b h.dw k hk A c m bs hm hb hbl hC).mono fun e W' ⟨h1, h2⟩ => ⟨h1, h.post h2⟩
theorem read_j (h : JS n w0 wX S B d ls W) (k : Int) (hk : -9223372036854775808 ≤ k ∧ k ≤ 9223372036854775807) :
    Calls Try.prog 19 #[.pointer (some ⟨B, 0, none⟩), .int .i64 k] W fun e W' => ∃ v, e = .returned (.tuple #[v, .int .i64 (readD d k).2]) ∧ Kd.R (Kd.int .u8) 5 W' W.heap.size (fun _ => True) v (readD d k).1 ∧ JS n w0 wX S B d ls W' ∧ Below W.heap.size W W' := by
  obtain ⟨D, h⟩ := h
  exact (read_b h.dw k hk).mono fun e W' ⟨v, h1, h2, _, h4⟩ => ⟨v, h1, h2, ⟨D, h.grow h4⟩, h4⟩
/-- A crash; keep is a literal of one number that has just been made. -/
theorem crash1_j (h : JS n w0 wX S B d ls W) (keep : Int) (hkr : -9223372036854775808 ≤ keep ∧ keep ≤ 9223372036854775807) (flip : Int) (hfl : -9223372036854775808 ≤ flip ∧ flip ≤ 9223372036854775807) :
    Calls Try.prog 18 #[.pointer (some ⟨B, 0, none⟩), .slice (some ⟨W.heap.size, 0, none⟩) 1 1, .int .i64 flip] (W.alloc (.cells #[.int .i64 keep] 3)) fun e W' => e = .returned (.tuple #[]) ∧ JS n w0 wX S B (crashD d [keep] flip) ls W' := by
  obtain ⟨D, h⟩ := h
  have hA : Below W.heap.size W (W.alloc (.cells #[.int .i64 keep] 3)) := (Below.refl _ _).alloc (Nat.le_refl _) _
  exact (crash_b (h.grow hA).dw (some ⟨W.heap.size, 0, none⟩) 1 1 [keep] rfl (by intro x hx; simp only [List.mem_singleton] at hx; subst hx; exact hkr) (by decide) flip hfl (lit64_keep W D h.dw.dk.lt [keep] (by unfold maxLen; simp))).mono fun e W' ⟨h1, h2⟩ => ⟨h1, (h.grow hA).post h2⟩
theorem crash0_j (h : JS n w0 wX S B d ls W) (flip : Int) (hfl : -9223372036854775808 ≤ flip ∧ flip ≤ 9223372036854775807) :
    Calls Try.prog 18 #[.pointer (some ⟨B, 0, none⟩), .slice none 0 0, .int .i64 flip] W fun e W' => e = .returned (.tuple #[]) ∧ JS n w0 wX S B (crashD d [] flip) ls W' := by
  obtain ⟨D, h⟩ := h
  exact (crash_b h.dw none 0 0 [] rfl (by simp) (by decide) flip hfl (fun W _ => none_C64 W)).mono fun e W' ⟨h1, h2⟩ => ⟨h1, h.post h2⟩

theorem openD_ok {d : Dsk} (h : DOk d) (k : Int) : DOk (openD d k).2 := by
  unfold openD
  split
  · split
    · split
      · exact (h.trunc _ _).sync
      · exact h.trunc _ _
    · exact h.sync
  · exact h
theorem lapD_ok {d : Dsk} (h : DOk d) (file k : Int) (down : Bool) {bs : List Int} (hb : ∀ x ∈ bs, 0 ≤ x ∧ x ≤ 255) : DOk (lapD d file k down bs).2.1 := by
  have ha := h.append file (frameL_byte k bs hb)
  unfold lapD
  split
  · exact h
  · split
    · exact h
    · split
      · exact ha.sync
      · exact ha
/-- Open, where it succeeds. -/
theorem open_j (h : JS n w0 wX S B d ls W) (k : Int) (hk : -9223372036854775808 ≤ k ∧ k ≤ 9223372036854775807) (ho : (openD d k).1 = 0) :
    Calls Try.prog 36 #[.pointer (some ⟨B, 0, none⟩), .int .i64 k] W fun e W' => ∃ L v, e = .returned (.tuple #[.pointer (some ⟨L, 0, none⟩), v, .int .i64 0]) ∧
      JS n w0 W' (fun k => S k ∨ (W.heap.size ≤ k ∧ k ≠ L ∧ k < W'.heap.size)) B (openD d k).2 ((L, k, (((scansL (readD d k).1).map Prod.fst).length : Int), false) :: ls) W' ∧
      (∀ k, S k → W'.heap[k]? = wX.heap[k]?) ∧ KL.R 27 W' W.heap.size (fun k => W.heap.size ≤ k ∧ k ≠ L ∧ k < W'.heap.size) v ((scansL (readD d k).1).map Prod.fst) := by
  obtain ⟨D, h⟩ := h
  refine (open_calls D B d h.dw.ok k hk W h.dw.dk).mono fun e W' hp => ?_
  rcases hp with ⟨_, L, v, h1, h2, h3, h4, h5, h6⟩ | ⟨h1, _⟩
  · have hs := h6.size
    have hL := lt_of h2
    have hkeep : ∀ k, S k → W'.heap[k]? = wX.heap[k]? := fun k hS => (h6.block k (h.apart k hS).1 (h.apart k hS).2.1).trans (h.keep k hS)
    have hdw : DW n w0 D B (openD d k).2 W' := ⟨h5, openD_ok h.dw.ok k, h.dw.own, h.dw.low.trans (h6.below h.dw.own h.dw.size), Nat.le_trans h.dw.size hs⟩
    have hlt := h.dw.dk.lt
    refine ⟨L, v, h1, ⟨D, hdw, fun _ _ => rfl, fun j hj => ?_, fun x hx => ?_, ?_⟩, hkeep, Kd.R_mono (Kd.R_bound h4) (fun j hj => ⟨hj.1.1, hj.1.2, hj.2.2.1⟩)⟩
    · rcases hj with hj | hj
      · obtain ⟨a1, a2, a3⟩ := h.apart j hj
        refine ⟨by omega, a2, fun x hx => ?_⟩
        rcases List.mem_cons.1 hx with rfl | hx
        · show L ≠ j; omega
        · exact a3 x hx
      · refine ⟨hj.2.2, fun e => by have := hlt j e; omega, fun x hx => ?_⟩
        rcases List.mem_cons.1 hx with rfl | hx
        · exact fun e => hj.2.1 e.symm
        · exact fun e => by have := lt_of (h.logs x hx).1; omega
    · rcases List.mem_cons.1 hx with rfl | hx
      · exact ⟨h2, fun e => by have := hlt L e; omega, Nat.le_trans h.dw.size h3⟩
      · obtain ⟨a1, a2, a3⟩ := h.logs x hx
        exact ⟨(h6.block x.1 (lt_of a1) a2).trans a1, a2, a3⟩
    · rw [List.map_cons, List.nodup_cons]
      refine ⟨fun e => ?_, h.nd⟩
      obtain ⟨x, hx, hxe⟩ := List.mem_map.1 e
      have := lt_of (h.logs x hx).1
      omega
  · exact absurd ho h1
/-- A log's Append; the log stands first. -/
theorem lap_j {L : Nat} {file m : Int} {down : Bool} (h : JS n w0 wX S B d ((L, file, m, down) :: ls) W) (hf : -9223372036854775808 ≤ file ∧ file ≤ 9223372036854775807) (hm : -9223372036854775808 ≤ m ∧ m + 1 ≤ 9223372036854775807)
    (A : Option Addr) (c l : Nat) (bs : List Int) (hl : bs.length = l) (hb : ∀ x ∈ bs, 0 ≤ x ∧ x ≤ 255) (hC : Kd.C (Kd.int .u8) W A bs.length bs) :
    Calls Try.prog 38 #[.pointer (some ⟨L, 0, none⟩), .slice A l c] W fun e W' => e = .returned (.int .i64 (lapD d file m down bs).1) ∧
      JS n w0 wX S B (lapD d file m down bs).2.1 ((L, file, (lapD d file m down bs).2.2.1, (lapD d file m down bs).2.2.2) :: ls) W' := by
  subst hl
  obtain ⟨D, h⟩ := h
  obtain ⟨b1, b2, b3⟩ := h.logs _ List.mem_cons_self
  simp only at b1 b2 b3
  have hnd := h.nd
  rw [List.map_cons, List.nodup_cons] at hnd
  have hne : ∀ x ∈ ls, x.1 ≠ L := fun x hx e => hnd.1 (by have h1 := List.mem_map_of_mem (f := fun x : Nat × Int × Int × Bool => x.1) hx; rwa [e] at h1)
  refine (lap_calls D B L d h.dw.ok file m down hf hm A c bs hb W h.dw.dk b1 b2 hC).mono fun e W' ⟨h1, h2, D', h3, h4, h5, h6, h7⟩ => ?_
  have hs := h7.size
  have hl := lt_of b1
  have hnot : ∀ k, k < W.heap.size → ¬ D k → ¬ D' k := fun k hlt hn e => (h5 k e).elim hn (fun e => by omega)
  have hown : ∀ j, D' j → n ≤ j := fun j hj => (h5 j hj).elim (h.dw.own j) (fun e => Nat.le_trans h.dw.size e)
  refine ⟨h1, D', ⟨h3, lapD_ok h.dw.ok file m down hb, hown, h.dw.low.trans (h7.below (fun j hj => hj.elim (h.dw.own j) (fun e => by rw [e]; exact b3)) h.dw.size), Nat.le_trans h.dw.size hs⟩, fun k hk => ?_, fun k hk => ?_, fun x hx => ?_, ?_⟩
  · obtain ⟨a1, a2, a3⟩ := h.apart k hk
    exact (h7.block k a1 (fun e => e.elim a2 (fun e => a3 _ List.mem_cons_self e.symm))).trans (h.keep k hk)
  · obtain ⟨a1, a2, a3⟩ := h.apart k hk
    refine ⟨by omega, hnot k a1 a2, fun x hx => ?_⟩
    rcases List.mem_cons.1 hx with rfl | hx
    · exact a3 (L, file, m, down) List.mem_cons_self
    · exact a3 x (List.mem_cons_of_mem _ hx)
  · rcases List.mem_cons.1 hx with rfl | hx
    · exact ⟨h2, h6, b3⟩
    · obtain ⟨a1, a2, a3⟩ := h.logs x (List.mem_cons_of_mem _ hx)
      exact ⟨(h7.block x.1 (lt_of a1) (fun e => e.elim a2 (hne x hx))).trans a1, hnot x.1 (lt_of a1) a2, a3⟩
  · rw [List.map_cons, List.nodup_cons]
    exact hnd
theorem JS.lg {L : Nat} {file m : Int} {down : Bool} (h : JS n w0 wX S B d ls W) (hm : (L, file, m, down) ∈ ls) : Lg W L B file m down := by
  obtain ⟨D, h⟩ := h
  exact (h.logs _ hm).1
theorem JS.drop {x : Nat × Int × Int × Bool} (h : JS n w0 wX S B d (x :: ls) W) : JS n w0 wX S B d ls W := by
  obtain ⟨D, h⟩ := h
  have hnd := h.nd
  rw [List.map_cons, List.nodup_cons] at hnd
  exact ⟨D, h.dw, h.keep, fun k hk => ⟨(h.apart k hk).1, (h.apart k hk).2.1, fun z hz => (h.apart k hk).2.2 z (List.mem_cons_of_mem _ hz)⟩, fun z hz => h.logs z (List.mem_cons_of_mem _ hz), hnd.2⟩
/-- Less is kept, and since an earlier world. -/
theorem JS.back {wY : World} {S2 : Nat → Prop} (h : JS n w0 wY S2 B d ls W) (hS : ∀ k, S k → S2 k) (hk : ∀ k, S k → wY.heap[k]? = wX.heap[k]?) : JS n w0 wX S B d ls W := by
  obtain ⟨D, h⟩ := h
  exact ⟨D, h.dw, fun k hS1 => (h.keep k (hS k hS1)).trans (hk k hS1), fun k hS1 => h.apart k (hS k hS1), h.logs, h.nd⟩
theorem JS.swap {x y : Nat × Int × Int × Bool} (h : JS n w0 wX S B d (x :: y :: ls) W) : JS n w0 wX S B d (y :: x :: ls) W := by
  obtain ⟨D, h⟩ := h
  have hp : ∀ z, z ∈ y :: x :: ls ↔ z ∈ x :: y :: ls := fun z => by simp only [List.mem_cons]; exact ⟨fun e => e.elim (fun e => .inr (.inl e)) (fun e => e.elim .inl (fun e => .inr (.inr e))), fun e => e.elim (fun e => .inr (.inl e)) (fun e => e.elim .inl (fun e => .inr (.inr e)))⟩
  refine ⟨D, h.dw, h.keep, fun k hk => ⟨(h.apart k hk).1, (h.apart k hk).2.1, fun z hz => (h.apart k hk).2.2 z ((hp z).1 hz)⟩, fun z hz => h.logs z ((hp z).1 hz), ?_⟩
  have hnd := h.nd
  simp only [List.map_cons, List.nodup_cons, List.mem_cons, not_or] at hnd ⊢
  exact ⟨⟨fun e => hnd.1.1 e.symm, hnd.2.1⟩, hnd.1.2, hnd.2.2⟩
end

/-- A list of byte slices that lies in blocks which are kept, read in a later world. -/
theorem list_keep {wX : World} {e base : Nat} {ok : Nat → Prop} {A : Option Addr} {n c : Nat} {xs : List (List Int)} (h : KL.R e wX base ok (.slice A n c) xs) (W : World) (hk : ∀ k, ok k → W.heap[k]? = wX.heap[k]?) : KL.C W A xs.length xs :=
  (Kd.R_reads' (Kd.R_step (w1 := W) h (fun k hok _ => hk k hok))).2.2
theorem row_keep {wX : World} {e base : Nat} {ok : Nat → Prop} {A : Option Addr} {n c : Nat} {xs : List Int} (h : Kd.R (Kd.int .u8) e wX base ok (.slice A n c) xs) (W : World) (hk : ∀ k, ok k → W.heap[k]? = wX.heap[k]?) : Kd.C (Kd.int .u8) W A xs.length xs :=
  (Kd.R_reads' (Kd.R_step (w1 := W) h (fun k hok _ => hk k hok))).2.2
theorem same_lists_n (A1 A2 : Option Addr) (c1 c2 m1 m2 : Nat) (a b : List (List Int)) (h1 : a.length = m1) (h2 : b.length = m2) (he : a = b) (hl : m1 ≤ 140737488355328) (hin : ∀ x ∈ a, x.length ≤ 140737488355328) (w : World) (hC1 : KL.C w A1 a.length a) (hC2 : KL.C w A2 b.length b) :
    Calls Try.prog 39 #[.slice A1 m1 c1, .slice A2 m2 c2] w fun e w' => e = .returned (.bool true) ∧ Below w.heap.size w w' := by
  subst h1 h2
  have h := sameLists_calls A1 A2 c1 c2 a b hl hin w hC1 hC2
  rw [decide_eq_true he] at h
  exact h
/-- The first elements of a list of byte slices. -/
theorem kl_take {w : World} {A : Option Addr} {n : Nat} {xs : List (List Int)} (h : KL.C w A n xs) (m : Nat) (hm : m ≤ n) : KL.C w A m (xs.take m) := by
  obtain ⟨h1, h2, h3⟩ := h
  refine ⟨by rw [List.length_take]; omega, by omega, fun h0 => ?_⟩
  obtain ⟨ad, e, h4⟩ := h3 (by omega)
  refine ⟨ad, e, fun j p hj => h4 j p ?_⟩
  rw [List.getElem?_take] at hj
  split at hj
  · exact hj
  · cases hj
end Go.Proofs.Ytjnbbmiccbjjbaa.Jnl
