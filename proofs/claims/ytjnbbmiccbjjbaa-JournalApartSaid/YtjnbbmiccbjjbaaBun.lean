/- A disk of a law's own, bundled with what the law keeps about it: each method once more. -/
import Derived.Test.YtjnbbmiccbjjbaaLiv6
namespace Go.Proofs.Ytjnbbmiccbjjbaa.Disk
open Go.RowKit Go.Proofs Go.Proofs.Ytjnbbmiccbjjbaa.Ma Go.Proofs.Ytjnbbmiccbjjbaa.Wire Go.Proofs.Ytjnbbmiccbjjbaa.Rdr Go.Proofs.Ytjnbbmiccbjjbaa.MapI Go.Proofs.Ytjnbbmiccbjjbaa.Few Go.Proofs.YtjnbbmiccbjjbaaW.PrintWords Go.Proofs.YtjnbbmiccbjjbaaW.PrintLast

/-- The disk d in block B, its blocks in D; all of it stands from n on, and what stood before n is as it was in w0. -/
structure DW (n : Nat) (w0 : World) (D : Nat → Prop) (B : Nat) (d : Dsk) (W : World) : Prop where
  dk : Dk W D B d
  ok : DOk d
  own : ∀ j, D j → n ≤ j
  low : Below n w0 W
  size : n ≤ W.heap.size
/-- What a method leaves. -/
def DP (n : Nat) (w0 : World) (D : Nat → Prop) (B : Nat) (d : Dsk) (W W' : World) : Prop := ∃ D', DW n w0 D' B d W' ∧ (∀ k, D k → D' k) ∧ (∀ k, D' k → D k ∨ W.heap.size ≤ k) ∧ KD D W W'

theorem DW.post {n : Nat} {w0 W W' : World} {D : Nat → Prop} {B : Nat} {d d' : Dsk} (h : DW n w0 D B d W) (hok : DOk d') (hs : DkS D B W d' W') : DP n w0 D B d' W W' := by
  obtain ⟨D', hd, h1, h2, hk⟩ := hs
  exact ⟨D', ⟨hd, hok, fun j hj => (h2 j hj).elim (h.own j) (fun e => Nat.le_trans h.size e), h.low.trans (hk.below h.own h.size), Nat.le_trans h.size hk.size⟩, h1, h2, hk⟩
theorem DW.post0 {n : Nat} {w0 W W' : World} {D : Nat → Prop} {B : Nat} {d d' : Dsk} (h : DW n w0 D B d W) (hok : DOk d') (hd : Dk W' D B d') (hk : KD D W W') : DP n w0 D B d' W W' := h.post hok (DkS.of hd hk)
theorem DW.grow {n : Nat} {w0 W W' : World} {D : Nat → Prop} {B : Nat} {d : Dsk} (h : DW n w0 D B d W) (hb : Below W.heap.size W W') : DW n w0 D B d W' :=
  ⟨h.dk.grow hb, h.ok, h.own, h.low.trans (hb.mono h.size), Nat.le_trans h.size hb.size⟩

theorem append_b {n : Nat} {w0 W : World} {D : Nat → Prop} {B : Nat} {d : Dsk} (h : DW n w0 D B d W) (k : Int) (hk : -9223372036854775808 ≤ k ∧ k ≤ 9223372036854775807) (A : Option Addr) (c m : Nat) (bs : List Int) (hm : bs.length = m) (hb : ∀ x ∈ bs, 0 ≤ x ∧ x ≤ 255) (hbl : m ≤ 70368744177664) (hC : Kd.C (Kd.int .u8) W A bs.length bs) :
    Calls Try.prog 16 #[.pointer (some ⟨B, 0, none⟩), .int .i64 k, .slice A m c] W fun e W' => e = .returned (.int .i64 (appendD d k bs).1) ∧ DP n w0 D B (appendD d k bs).2 W W' := by
  subst hm
  exact (append_calls D B d k hk h.ok.left h.ok.room h.ok.used' A c bs hbl W h.dk hC).mono fun e W' ⟨h1, h2⟩ => ⟨h1, h.post (h.ok.append k hb) h2⟩
theorem sync_b {n : Nat} {w0 W : World} {D : Nat → Prop} {B : Nat} {d : Dsk} (h : DW n w0 D B d W) :
    Calls Try.prog 17 #[.pointer (some ⟨B, 0, none⟩)] W fun e W' => e = .returned (.int .i64 (syncD d).1) ∧ DP n w0 D B (syncD d).2 W W' :=
  (sync_calls D B d h.ok.left W h.dk).mono fun e W' ⟨h1, h2, h3⟩ => ⟨h1, h.post0 h.ok.sync h2 h3⟩
theorem trunc_b {n : Nat} {w0 W : World} {D : Nat → Prop} {B : Nat} {d : Dsk} (h : DW n w0 D B d W) (k size : Int) (hk : -9223372036854775808 ≤ k ∧ k ≤ 9223372036854775807) :
    Calls Try.prog 22 #[.pointer (some ⟨B, 0, none⟩), .int .i64 k, .int .i64 size] W fun e W' => e = .returned (.int .i64 (truncD d k size).1) ∧ DP n w0 D B (truncD d k size).2 W W' :=
  (trunc_calls D B d k hk size h.ok.left (by have := h.ok.len k; omega) W h.dk).mono fun e W' ⟨h1, h2, h3⟩ => ⟨h1, h.post0 (h.ok.trunc k size) h2 h3⟩
theorem DOk.arm {d : Dsk} (h : DOk d) (n : Int) (hn : n ≤ 9223372036854775807) : DOk (armD d n) := by
  unfold armD
  split
  · exact h
  · exact ⟨fun e => ⟨by simpa using e, hn⟩, h.room, h.used, h.nodup, h.file⟩
theorem arm_b {n : Nat} {w0 W : World} {D : Nat → Prop} {B : Nat} {d : Dsk} (h : DW n w0 D B d W) (k : Int) (hk : k ≤ 9223372036854775807) :
    Calls Try.prog 30 #[.pointer (some ⟨B, 0, none⟩), .int .i64 k] W fun e W' => e = .returned (.tuple #[]) ∧ DP n w0 D B (armD d k) W W' :=
  (arm_calls D B d k W h.dk).mono fun e W' ⟨h1, h2, h3⟩ => ⟨h1, h.post0 (h.ok.arm k hk) h2 h3⟩
theorem crash_b {n : Nat} {w0 W : World} {D : Nat → Prop} {B : Nat} {d : Dsk} (h : DW n w0 D B d W) (Ak : Option Addr) (ck m : Nat) (keep : List Int) (hm : keep.length = m) (hkr : ∀ x ∈ keep, -9223372036854775808 ≤ x ∧ x ≤ 9223372036854775807) (hkl : m ≤ 140737488351232) (flip : Int) (hfl : -9223372036854775808 ≤ flip ∧ flip ≤ 9223372036854775807)
    (hkeep : ∀ W', KD D W W' → Kd.C (Kd.int .i64) W' Ak keep.length keep) :
    Calls Try.prog 18 #[.pointer (some ⟨B, 0, none⟩), .slice Ak m ck, .int .i64 flip] W fun e W' => e = .returned (.tuple #[]) ∧ DP n w0 D B (crashD d keep flip) W W' := by
  subst hm
  exact (crash_calls D B d h.ok Ak ck keep hkr hkl flip hfl W h.dk hkeep).mono fun e W' ⟨h1, h2⟩ => ⟨h1, h.post (h.ok.crash keep flip) h2⟩
theorem read_b {n : Nat} {w0 W : World} {D : Nat → Prop} {B : Nat} {d : Dsk} (h : DW n w0 D B d W) (k : Int) (hk : -9223372036854775808 ≤ k ∧ k ≤ 9223372036854775807) :
    Calls Try.prog 19 #[.pointer (some ⟨B, 0, none⟩), .int .i64 k] W fun e W' => ∃ v, e = .returned (.tuple #[v, .int .i64 (readD d k).2]) ∧ Kd.R (Kd.int .u8) 5 W' W.heap.size (fun _ => True) v (readD d k).1 ∧ DW n w0 D B d W' ∧ Below W.heap.size W W' :=
  (read_calls D B d k hk (by have := h.ok.len k; omega) W h.dk).mono fun e W' ⟨v, h1, h2, h3⟩ => ⟨v, h1, h2, h.grow h3, h3⟩
theorem used_b {n : Nat} {w0 W : World} {D : Nat → Prop} {B : Nat} {d : Dsk} (h : DW n w0 D B d W) :
    Calls Try.prog 23 #[.pointer (some ⟨B, 0, none⟩)] W fun e W' => e = .returned (.int .i64 (usedL d.fs)) ∧ DW n w0 D B d W' ∧ Below W.heap.size W W' :=
  (used_calls D B d (by have := h.ok.used'; omega) W h.dk).mono fun e W' ⟨h1, h2⟩ => ⟨h1, h.grow h2, h2⟩
theorem on_b {n : Nat} {w0 W : World} {D : Nat → Prop} {B : Nat} {d : Dsk} (h : DW n w0 D B d W) :
    Calls Try.prog 31 #[.pointer (some ⟨B, 0, none⟩)] W fun e W' => e = .returned (.bool (!d.off)) ∧ W = W' := on_calls D B d W h.dk
theorem DOk.files {d : Dsk} (h : DOk d) : d.fs.length ≤ 16777216 := by
  have h1 := len_used (fun p hp => (h.file p hp).2.1)
  have := h.used'
  omega
theorem files_b {n : Nat} {w0 W : World} {D : Nat → Prop} {B : Nat} {d : Dsk} (h : DW n w0 D B d W) :
    Calls Try.prog 48 #[.pointer (some ⟨B, 0, none⟩)] W fun e W' => ∃ v, e = .returned v ∧ Kd.R (Kd.int .i64) 3 W' W.heap.size (fun _ => True) v (keysS d.fs) ∧ DW n w0 D B d W' ∧ Below W.heap.size W W' :=
  (files_calls D B d h.ok.files W h.dk).mono fun e W' ⟨v, h1, h2, h3⟩ => ⟨v, h1, h2, h.grow h3, h3⟩
/-- A new disk. -/
theorem new_b (n : Nat) (w0 W : World) (h0 : Below n w0 W) (hn : n ≤ W.heap.size) (room : Int) (h1 : ¬ room < 0) (h2 : ¬ 16777216 < room) :
    Calls Try.prog 13 #[.int .i64 room] W fun e W' => ∃ B D, e = .returned (.tuple #[.pointer (some ⟨B, 0, none⟩), .int .i64 0]) ∧ DW n w0 D B (newDsk room) W' ∧ (∀ k, D k → W.heap.size ≤ k) ∧ Below W.heap.size W W' :=
  (new_calls room h1 h2 W).mono fun e W' ⟨B, D, h3, h4, h5, h6⟩ => ⟨B, D, h3, ⟨h4, DOk.new h1 h2, fun j hj => Nat.le_trans hn (h5 j hj), h0.trans (h6.mono hn), Nat.le_trans hn h6.size⟩, h5, h6⟩
/-- A copy: two disks apart. -/
theorem copy_b {n : Nat} {w0 W : World} {D : Nat → Prop} {B : Nat} {d : Dsk} (h : DW n w0 D B d W) :
    Calls Try.prog 32 #[.pointer (some ⟨B, 0, none⟩)] W fun e W' => ∃ C E, e = .returned (.pointer (some ⟨C, 0, none⟩)) ∧ DW n w0 E C d W' ∧ DW n w0 D B d W' ∧ Apart W' D E ∧ (∀ k, E k → W.heap.size ≤ k ∨ (D k ∧ IsU8 W k)) ∧ Below W.heap.size W W' :=
  (copy_calls D B d W h.dk).mono fun e W' ⟨C, E, h1, h2, h3, h4⟩ => ⟨C, E, h1, ⟨h2, h.ok, fun j hj => (h3 j hj).elim (fun e => Nat.le_trans h.size e) (fun e => h.own j e.1), h.low.trans (h4.mono h.size), Nat.le_trans h.size h4.size⟩, h.grow h4,
    fun k a b => (h3 k b).elim (fun e => by have := h.dk.lt k a; omega) (fun e => by obtain ⟨cells, hc⟩ := e.2; exact ⟨cells, (h4.block k (lt_of hc)).trans hc⟩), h3, h4⟩
/-- What one disk's method leaves of another disk. -/
theorem DW.other {n : Nat} {w0 W W' : World} {D E : Nat → Prop} {B C : Nat} {d d2 d' : Dsk} (h : DW n w0 E C d W) (ha : Apart W D E) (hp : DP n w0 D B d' W W') : DW n w0 E C d W' := by
  obtain ⟨D', hd, _, _, hk⟩ := hp
  exact ⟨h.dk.other ha hk, h.ok, h.own, hd.low, hd.size⟩
theorem row_dp {α : Type} {d : Kd α} {e : Nat} {W W' : World} {D D' : Nat → Prop} {base : Nat} {v : Value} {xs : List α} (h : Kd.R d e W base (fun k => ¬ D k) v xs) (hk : KD D W W') (hD : ∀ k, D' k → D k ∨ W.heap.size ≤ k) : Kd.R d e W' base (fun k => ¬ D' k) v xs :=
  Kd.R_mono (Kd.R_step (w1 := W') (Kd.R_bound h) (fun k ho _ => hk.block k ho.2.2.1 ho.1)) (fun k ho e => (hD k e).elim ho.1 (fun e => by have := ho.2.2.1; omega))
theorem DW.grown {n : Nat} {w0 W W' : World} {D : Nat → Prop} {B : Nat} {d : Dsk} {row : Option Nat} (h : DW n w0 D B d W) (hg : W.grownBy W' row) (hr : ∀ k, row = some k → ¬ D k) (hl : Below n w0 W') : DW n w0 D B d W' :=
  ⟨h.dk.keep (fun k hk => hg.block k (h.dk.lt k hk) (fun e => hr k e.symm hk)) hg.size, h.ok, h.own, hl, Nat.le_trans h.size hg.size⟩
theorem same_yes (A1 A2 : Option Addr) (c1 c2 m1 m2 : Nat) (a b : List Int) (h1 : a.length = m1) (h2 : b.length = m2) (he : a = b) (hl : m1 ≤ 140737488355328) (w : World) (hC1 : Kd.C (Kd.int .u8) w A1 a.length a) (hC2 : Kd.C (Kd.int .u8) w A2 b.length b) :
    Calls Try.prog 20 #[.slice A1 m1 c1, .slice A2 m2 c2] w fun e w' => e = .returned (.bool true) ∧ ∃ n, w' = w.drewN n := by
  subst h1 h2
  have h := sameBytes_calls A1 A2 c1 c2 a b hl w hC1 hC2
  rw [decide_eq_true he] at h
  exact h

theorem c_cell {k : IntKind} {W : World} {A : Option Addr} {l : List Int} (h : Kd.C (Kd.int k) W A l.length l) (j : Nat) (hj : j < l.length) : ∃ ad, A = some ad ∧ W.cell? (ad.add j) = some (.int k (l.getD j 0)) := by
  obtain ⟨_, _, h3⟩ := h
  obtain ⟨ad, e, h5⟩ := h3 (by omega)
  obtain ⟨cs, hl2, hK2, hc⟩ := h5 j (l.getD j 0) (by rw [List.getD_eq_getElem?_getD, List.getElem?_eq_getElem hj]; rfl)
  simp only [Kd.int, Kd.scalar] at hK2 hc
  subst hK2
  exact ⟨ad, e, by simpa using hc 0 _ rfl⟩
end Go.Proofs.Ytjnbbmiccbjjbaa.Disk
