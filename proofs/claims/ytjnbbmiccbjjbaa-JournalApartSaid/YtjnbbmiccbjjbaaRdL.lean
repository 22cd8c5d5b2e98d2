/- Plain facts on what a reader of bytes computes. -/
import Derived.Test.YtjnbbmiccbjjbaaMa
namespace Go.Proofs.Ytjnbbmiccbjjbaa.Ma
open Go Go.RowKit

/-- The next byte, what is left, the error. -/
def nextC : List Int → Int → Int
  | [], _ => 0
  | x :: _, e => if e = 0 then x else 0
def nextR : List Int → Int → List Int
  | [], _ => []
  | x :: l, e => if e = 0 then l else x :: l
/-- An error is recorded unless there is one. -/
def failE (e c : Int) : Int := if e = 0 then c else e
def nextE : List Int → Int → Int
  | [], e => failE e 3
  | _ :: _, e => e

/-- Reading a varint from digit i on, n being read: the number, what is left, the error. -/
def rdU : Nat → Nat → List Int → Nat × List Int × Int
  | _, _, [] => (0, [], 3)
  | i, n, c :: l => if (i = 9 ∧ c > 1) ∨ (i > 0 ∧ c = 0) then (0, l, 2) else if c < 128 then (n + c.toNat * 128 ^ i, l, 0) else rdU (i + 1) (n + c.toNat % 128 * 128 ^ i) l

/-- Reading a varint, unless an error is recorded. -/
def rdUint (l : List Int) (e : Int) : Nat × List Int × Int := if e = 0 then rdU 0 0 l else (0, l, e)

theorem andNot128 (x : Nat) (h : x < 256) : bits .andNot .u8 (x : Int) 128 = ((x % 128 : Nat) : Int) := by
  have h2 : ∀ a : Fin 256, bits .andNot .u8 ((a.val : Int)) 128 = ((a.val % 128 : Nat) : Int) := by decide +kernel
  exact h2 ⟨x, h⟩

theorem pow128 (k : Nat) (h : k ≤ 9) : (128 : Nat) ^ k ≤ 9223372036854775808 := by
  have : k = 0 ∨ k = 1 ∨ k = 2 ∨ k = 3 ∨ k = 4 ∨ k = 5 ∨ k = 6 ∨ k = 7 ∨ k = 8 ∨ k = 9 := by omega
  rcases this with rfl | rfl | rfl | rfl | rfl | rfl | rfl | rfl | rfl | rfl <;> decide

theorem rd_fits (m x k : Nat) (hm : m < 128 ^ k) (hk : k ≤ 9) (h9 : k = 9 → x ≤ 1) : m + x % 128 * 128 ^ k < 18446744073709551616 := by
  by_cases h : k = 9
  · subst h
    have := h9 rfl
    have e : (128 : Nat) ^ 9 = 9223372036854775808 := by decide
    rw [e] at hm ⊢
    omega
  · have h1 := pow128 (k + 1) (by omega)
    rw [Nat.pow_succ] at h1
    have h2 : x % 128 * 128 ^ k ≤ 127 * 128 ^ k := Nat.mul_le_mul_right _ (by omega)
    omega

theorem rd_or (m x k : Nat) (hm : m < 128 ^ k) (hx : x < 256) (hk : k ≤ 9) (h9 : k = 9 → x ≤ 1) :
    bits .or .u64 (m : Int) (IntKind.u64.wrap (IntKind.u64.wrap (bits .andNot .u8 (x : Int) 128) * 2 ^ (7 * k))) = ((m + x % 128 * 128 ^ k : Nat) : Int) := by
  have hf := rd_fits m x k hm hk h9
  have e2 : (2 : Int) ^ (7 * k) = ((128 ^ k : Nat) : Int) := by rw [Int.pow_mul]; push_cast; rfl
  have e2' : (2 : Nat) ^ (7 * k) = 128 ^ k := by rw [Nat.pow_mul]
  have e3 : IntKind.u64.wrap ((x % 128 : Nat) : Int) = ((x % 128 : Nat) : Int) := by rw [IntKind.wrap_u64]; omega
  rw [andNot128 x hx, e3, e2]
  have e4 : ((x % 128 : Nat) : Int) * ((128 ^ k : Nat) : Int) = ((x % 128 * 128 ^ k : Nat) : Int) := by push_cast; rfl
  rw [e4]
  have e5 : IntKind.u64.wrap ((x % 128 * 128 ^ k : Nat) : Int) = ((x % 128 * 128 ^ k : Nat) : Int) := by rw [IntKind.wrap_u64]; omega
  rw [e5, bits_or_u64_nat _ _ (by omega) (by omega), Nat.or_comm, Nat.mul_comm, ← e2', ← Nat.two_pow_add_eq_or_of_lt (by rw [e2']; exact hm)]
  congr 1
  omega

theorem rdU_cons (i n : Nat) (c : Int) (l : List Int) : rdU i n (c :: l) = if (i = 9 ∧ c > 1) ∨ (i > 0 ∧ c = 0) then (0, l, 2) else if c < 128 then (n + c.toNat * 128 ^ i, l, 0) else rdU (i + 1) (n + c.toNat % 128 * 128 ^ i) l := rfl
theorem rdU_bad (i n : Nat) (c : Int) (l : List Int) (h : (i = 9 ∧ c > 1) ∨ (i > 0 ∧ c = 0)) : rdU i n (c :: l) = (0, l, 2) := by rw [rdU_cons, if_pos h]
theorem rdU_end (i n x : Nat) (l : List Int) (h : ¬ ((i = 9 ∧ (x : Int) > 1) ∨ (i > 0 ∧ (x : Int) = 0))) (h2 : x < 128) : rdU i n ((x : Int) :: l) = (n + x % 128 * 128 ^ i, l, 0) := by
  rw [rdU_cons, if_neg h, if_pos (by omega), Int.toNat_natCast, Nat.mod_eq_of_lt h2]
theorem rdU_more (i n x : Nat) (l : List Int) (h : ¬ ((i = 9 ∧ (x : Int) > 1) ∨ (i > 0 ∧ (x : Int) = 0))) (h2 : 128 ≤ x) : rdU i n ((x : Int) :: l) = rdU (i + 1) (n + x % 128 * 128 ^ i) l := by
  rw [rdU_cons, if_neg h, if_neg (by omega), Int.toNat_natCast]

/-- Where a reading of a varint of l stands: digit k is next. -/
def RdSt (_l : List Int) (k : Nat) (m : Int) (l' : List Int) (e' : Int) (res : Nat × List Int × Int) : Prop :=
  (e' = 0 ∧ k ≤ 9 ∧ (∃ mn : Nat, m = (mn : Int) ∧ mn < 128 ^ k ∧ res = rdU k mn l') ∧ ∀ x ∈ l', 0 ≤ x ∧ x ≤ 255) ∨ (e' ≠ 0 ∧ res = (0, l', e'))

theorem rdU_suffix : ∀ (l : List Int) (i n : Nat), ∃ p, l = p ++ (rdU i n l).2.1
  | [], i, n => ⟨[], rfl⟩
  | c :: l, i, n => by
    rw [rdU_cons]
    split
    · exact ⟨[c], rfl⟩
    · split
      · exact ⟨[c], rfl⟩
      · obtain ⟨p, h⟩ := rdU_suffix l (i + 1) (n + c.toNat % 128 * 128 ^ i)
        exact ⟨c :: p, by rw [List.cons_append, ← h]⟩
theorem rdU_zero : ∀ (l : List Int) (i n : Nat), (rdU i n l).2.2 ≠ 0 → (rdU i n l).1 = 0
  | [], i, n => fun _ => rfl
  | c :: l, i, n => by
    rw [rdU_cons]
    split
    · exact fun _ => rfl
    · split
      · exact fun h => absurd rfl h
      · exact rdU_zero l (i + 1) _
theorem rdUint_suffix (l : List Int) (e : Int) : ∃ p, l = p ++ (rdUint l e).2.1 := by
  unfold rdUint
  split
  · exact rdU_suffix l 0 0
  · exact ⟨[], rfl⟩
theorem rdUint_zero (l : List Int) (e : Int) (h : (rdUint l e).2.2 ≠ 0) : (rdUint l e).1 = 0 := by
  unfold rdUint at h ⊢
  split
  · rename_i he
    rw [if_pos he] at h
    exact rdU_zero l 0 0 h
  · rfl
theorem rdUint_byte (l : List Int) (e : Int) (hb : ∀ x ∈ l, 0 ≤ x ∧ x ≤ 255) : ∀ x ∈ (rdUint l e).2.1, 0 ≤ x ∧ x ≤ 255 := by
  obtain ⟨p, h⟩ := rdUint_suffix l e
  intro x hx
  exact hb x (by rw [h]; exact List.mem_append_right _ hx)
theorem rdUint_le (l : List Int) (e : Int) : (rdUint l e).2.1.length ≤ l.length := by
  obtain ⟨p, h⟩ := rdUint_suffix l e
  have := congrArg List.length h
  simp at this
  omega
theorem rdU_lt : ∀ (l : List Int) (i n : Nat), (∀ x ∈ l, 0 ≤ x ∧ x ≤ 255) → i ≤ 9 → n < 128 ^ i → (rdU i n l).1 < 18446744073709551616
  | [], i, n => fun _ _ _ => by simp [rdU]
  | c :: l, i, n => by
    intro hb hi hn
    obtain ⟨x, rfl⟩ := Int.eq_ofNat_of_zero_le (hb c (by simp)).1
    have hx : x < 256 := by have := (hb x (by simp)).2; omega
    by_cases hP : (i = 9 ∧ (x : Int) > 1) ∨ (i > 0 ∧ (x : Int) = 0)
    · rw [rdU_bad _ _ _ _ hP]; simp
    · by_cases hlo : x < 128
      · rw [rdU_end _ _ _ _ hP hlo]
        exact rd_fits n x i hn hi (by omega)
      · rw [rdU_more _ _ _ _ hP (by omega)]
        refine rdU_lt l _ _ (fun y hy => hb y (by simp [hy])) (by omega) ?_
        rw [Nat.pow_succ]
        have := Nat.mul_le_mul_right (128 ^ i) (show x % 128 ≤ 127 by omega)
        omega
theorem rdUint_lt (l : List Int) (e : Int) (hb : ∀ x ∈ l, 0 ≤ x ∧ x ≤ 255) : (rdUint l e).1 < 18446744073709551616 := by
  unfold rdUint
  split
  · exact rdU_lt l 0 0 hb (by omega) (by decide)
  · simp

/-- Reading a byte slice: the bytes (none if there is an error), what is left, the error. -/
def rdRaw (l : List Int) (e : Int) : List Int × List Int × Int :=
  if (rdUint l e).2.2 ≠ 0 then ([], (rdUint l e).2.1, (rdUint l e).2.2)
  else if (rdUint l e).1 > (rdUint l e).2.1.length then ([], (rdUint l e).2.1, 3)
  else ((rdUint l e).2.1.take (rdUint l e).1, (rdUint l e).2.1.drop (rdUint l e).1, 0)

/-- The int of a zigzag form. -/
def unzz (z : Nat) : Int := if z % 2 = 1 then -((z / 2 : Nat) : Int) - 1 else ((z / 2 : Nat) : Int)

theorem xor_i64 (a : Nat) (h : a < 9223372036854775808) : bits .xor .i64 (a : Int) (-1) = -(a : Int) - 1 ∧ bits .xor .i64 (a : Int) 0 = (a : Int) := by
  have e1 : BitVec.ofInt 64 (-1) = BitVec.allOnes 64 := by decide
  have e0 : BitVec.ofInt 64 0 = 0#64 := by decide
  have ea : BitVec.ofInt 64 (a : Int) = BitVec.ofNat 64 a := BitVec.ofInt_natCast 64 a
  constructor
  · show IntKind.i64.wrap (((BitVec.ofInt 64 (a : Int)) ^^^ (BitVec.ofInt 64 (-1))).toNat : Int) = _
    rw [ea, e1, BitVec.xor_allOnes, BitVec.toNat_not, BitVec.toNat_ofNat, IntKind.wrap_i64]
    omega
  · show IntKind.i64.wrap (((BitVec.ofInt 64 (a : Int)) ^^^ (BitVec.ofInt 64 0)).toNat : Int) = _
    rw [ea, e0, BitVec.xor_zero, BitVec.toNat_ofNat, IntKind.wrap_i64]
    omega

theorem unzz_eq (z : Nat) (hz : z < 18446744073709551616) : bits .xor .i64 ((z : Int) / 2) (wrap64 (-wrap64 (bits .and .u64 (z : Int) 1))) = unzz z := by
  have h1 := bits_and_u64_nat z 1 hz (by decide)
  rw [Nat.and_one_is_mod] at h1
  rw [show bits .and .u64 (z : Int) 1 = ((z % 2 : Nat) : Int) from h1, show ((z : Int) / 2) = ((z / 2 : Nat) : Int) by omega]
  unfold unzz
  by_cases h : z % 2 = 1
  · rw [if_pos h, h, show wrap64 (-wrap64 ((1 : Nat) : Int)) = -1 from by unfold wrap64; omega]
    exact (xor_i64 _ (by omega)).1
  · rw [if_neg h, show z % 2 = 0 by omega, show wrap64 (-wrap64 ((0 : Nat) : Int)) = 0 from by unfold wrap64; omega]
    exact (xor_i64 _ (by omega)).2

/-- The record whose frame may be at the beginning of some bytes, as the program reads it. -/
def recL (b : List Int) : List Int :=
  let n := (rdUint (b.take (min b.length 10)) 0).1
  let core := (rdRaw (b.take (min b.length (10 + min n b.length))) 0).1
  let r := rdUint core 0
  (rdRaw r.2.1 r.2.2).1

theorem rdRaw_byte (l : List Int) (e : Int) (hb : ∀ x ∈ l, 0 ≤ x ∧ x ≤ 255) : ∀ x ∈ (rdRaw l e).1, 0 ≤ x ∧ x ≤ 255 := by
  have h := rdUint_byte l e hb
  unfold rdRaw
  split
  · simp
  · split
    · simp
    · exact fun x hx => h x (List.mem_of_mem_take hx)
theorem rdRaw_len (l : List Int) (e : Int) : (rdRaw l e).1.length ≤ l.length := by
  have h := rdUint_le l e
  unfold rdRaw
  split
  · simp
  · split
    · simp
    · simp only [List.length_take]; omega
theorem recL_byte (b : List Int) (hb : ∀ x ∈ b, 0 ≤ x ∧ x ≤ 255) : ∀ x ∈ recL b, 0 ≤ x ∧ x ≤ 255 :=
  rdRaw_byte _ _ (rdUint_byte _ _ (rdRaw_byte _ _ (fun x hx => hb x (List.mem_of_mem_take hx))))
theorem recL_len (b : List Int) : (recL b).length ≤ b.length := by
  unfold recL
  refine Nat.le_trans (rdRaw_len _ _) (Nat.le_trans (rdUint_le _ _) (Nat.le_trans (rdRaw_len _ _) ?_))
  rw [List.length_take]; omega

/-- The records from byte p on, the k-th being next, each with its end. -/
def scanR : Nat → Nat → Nat → List Int → List (List Int × Int)
  | 0, _, _, _ => []
  | f + 1, k, p, b => if p < b.length then (if frameL k (recL (b.drop p)) <+: b.drop p then (recL (b.drop p), ((p + (frameL k (recL (b.drop p))).length : Nat) : Int)) :: scanR f (k + 1) (p + (frameL k (recL (b.drop p))).length) b else []) else []

theorem scanR_end (f k p : Nat) (b : List Int) (h : ¬ p < b.length) : scanR f k p b = [] := by
  cases f with
  | zero => rfl
  | succ f => rw [scanR, if_neg h]
theorem scanR_bad (f k p : Nat) (b : List Int) (h : ¬ frameL k (recL (b.drop p)) <+: b.drop p) : scanR f k p b = [] := by
  cases f with
  | zero => rfl
  | succ f =>
    rw [scanR, if_neg h]
    split <;> rfl
theorem scanR_good (f k p : Nat) (b : List Int) (hp : p < b.length) (h : frameL k (recL (b.drop p)) <+: b.drop p) : scanR (f + 1) k p b = (recL (b.drop p), ((p + (frameL k (recL (b.drop p))).length : Nat) : Int)) :: scanR f (k + 1) (p + (frameL k (recL (b.drop p))).length) b := by
  rw [scanR, if_pos hp, if_pos h]

theorem frameL_pos (n : Int) (b : List Int) : 0 < (frameL n b).length := by
  have := vint_pos (bytesN entryS (coreL n b))
  simp only [frameL, List.length_append]
  omega

end Go.Proofs.Ytjnbbmiccbjjbaa.Ma
