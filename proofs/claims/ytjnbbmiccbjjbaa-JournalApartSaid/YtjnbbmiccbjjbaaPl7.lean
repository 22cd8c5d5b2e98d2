/- Plain facts on frames and records: what is written is read back. -/
import Derived.Test.YtjnbbmiccbjjbaaRdL
namespace Go.Proofs.Ytjnbbmiccbjjbaa.Ma
open Go Go.RowKit

theorem rdU_vint : ∀ (m i n : Nat) (rest : List Int), m * 128 ^ i < 18446744073709551616 → (i > 0 → m > 0) → i ≤ 9 → rdU i n (vint m ++ rest) = (n + m * 128 ^ i, rest, 0) := by
  intro m
  induction m using Nat.strongRecOn with
  | _ m ih =>
    intro i n rest hm hp hi
    have h9 : i = 9 → m * 9223372036854775808 < 18446744073709551616 := by
      rintro rfl
      rwa [show (128 : Nat) ^ 9 = 9223372036854775808 from by decide] at hm
    by_cases hs : m < 128
    · rw [vint_small m hs, List.singleton_append, rdU_end i n m rest (by omega) hs, Nat.mod_eq_of_lt hs]
    · rw [vint_big m hs, List.cons_append, rdU_more i n (m % 128 + 128) _ (by omega) (by omega)]
      have e1 : (m % 128 + 128) % 128 = m % 128 := by omega
      have e2 : m / 128 * 128 ^ (i + 1) = m / 128 * 128 * 128 ^ i := by rw [Nat.pow_succ, Nat.mul_assoc, Nat.mul_comm (128 ^ i) 128]
      have e3 : m / 128 * 128 * 128 ^ i ≤ m * 128 ^ i := Nat.mul_le_mul_right _ (by omega)
      have e4 : m % 128 * 128 ^ i + m / 128 * 128 * 128 ^ i = m * 128 ^ i := by rw [← Nat.add_mul]; congr 1; omega
      rw [e1, ih (m / 128) (by omega) (i + 1) _ rest (by omega) (by omega) (by omega)]
      congr 1
      omega

theorem rdUint_vint (m : Nat) (hm : m < 18446744073709551616) (rest : List Int) : rdUint (vint m ++ rest) 0 = (m, rest, 0) := by
  unfold rdUint
  rw [if_pos rfl, rdU_vint m 0 0 rest (by simpa using hm) (by omega) (by omega)]
  simp

theorem rdRaw_rawL (x rest : List Int) (hx : x.length < 18446744073709551616) : rdRaw (rawL x ++ rest) 0 = (x, rest, 0) := by
  unfold rdRaw rawL
  rw [List.append_assoc, rdUint_vint x.length hx]
  simp

theorem rdRaw_rawL' (x : List Int) (hx : x.length < 18446744073709551616) : rdRaw (rawL x) 0 = (x, [], 0) := by
  have := rdRaw_rawL x [] hx
  rwa [List.append_nil] at this

theorem recL_frame (k : Int) (hk : -9223372036854775808 ≤ k ∧ k ≤ 9223372036854775807) (y b : List Int) (hy : y.length < 9223372036854775808) (h : frameL k y <+: b) : recL b = y := by
  obtain ⟨t, rfl⟩ := h
  have hcl := coreL_length k hk y (by omega)
  have hv := vint_length (coreL k y).length (by omega)
  unfold frameL
  generalize vint (bytesN entryS (coreL k y)) = hh
  have e1 : rawL (coreL k y) ++ hh ++ t = vint (coreL k y).length ++ (coreL k y ++ (hh ++ t)) := by simp [rawL]
  have h1 : (rdUint ((rawL (coreL k y) ++ hh ++ t).take (min (rawL (coreL k y) ++ hh ++ t).length 10)) 0).1 = (coreL k y).length := by
    rw [e1, List.take_append, List.take_of_length_le (by simp only [List.length_append]; omega), rdUint_vint _ (by omega)]
  have h2 : (rdRaw ((rawL (coreL k y) ++ hh ++ t).take (min (rawL (coreL k y) ++ hh ++ t).length (10 + min (coreL k y).length (rawL (coreL k y) ++ hh ++ t).length))) 0).1 = coreL k y := by
    have hrl : (rawL (coreL k y)).length = (vint (coreL k y).length).length + (coreL k y).length := by simp [rawL]
    rw [List.append_assoc, List.take_append, List.take_of_length_le (by simp only [List.length_append]; omega), rdRaw_rawL _ _ (by omega)]
  unfold recL
  simp only [h1, h2]
  unfold coreL
  rw [rdUint_vint _ (zz_lt k hk), rdRaw_rawL' y (by omega)]

/-- What the reference reads at the beginning: the record, and whether there was no error. -/
def refL (b : List Int) : List Int × Bool :=
  let c := rdRaw b 0
  let r := rdUint c.1 0
  let x := rdRaw r.2.1 r.2.2
  (x.1, decide (c.2.2 = 0 ∧ x.2.2 = 0))

theorem refL_frame (k : Int) (hk : -9223372036854775808 ≤ k ∧ k ≤ 9223372036854775807) (y b : List Int) (hy : y.length < 9223372036854775808) (h : frameL k y <+: b) : refL b = (y, true) := by
  obtain ⟨t, rfl⟩ := h
  have hcl := coreL_length k hk y (by omega)
  unfold frameL refL
  rw [List.append_assoc, rdRaw_rawL _ _ (by omega)]
  simp only
  unfold coreL
  rw [rdUint_vint _ (zz_lt k hk), rdRaw_rawL' y (by omega)]
  simp

/-- The reference finds a frame where the program does. -/
theorem refL_iff (k : Int) (hk : -9223372036854775808 ≤ k ∧ k ≤ 9223372036854775807) (b : List Int) (hb : b.length < 9223372036854775808) :
    ((refL b).2 = true ∧ frameL k (refL b).1 <+: b) ↔ frameL k (recL b) <+: b := by
  constructor
  · rintro ⟨_, h⟩
    have hl : (refL b).1.length ≤ b.length := by
      unfold refL
      exact Nat.le_trans (rdRaw_len _ _) (Nat.le_trans (rdUint_le _ _) (rdRaw_len _ _))
    rw [recL_frame k hk _ b (by omega) h]
    exact h
  · intro h
    have hl := recL_len b
    rw [refL_frame k hk _ b (by omega) h]
    exact ⟨rfl, h⟩
theorem refL_rec (k : Int) (hk : -9223372036854775808 ≤ k ∧ k ≤ 9223372036854775807) (b : List Int) (hb : b.length < 9223372036854775808) (h : frameL k (recL b) <+: b) : (refL b).1 = recL b := by
  have hl := recL_len b
  rw [refL_frame k hk _ b (by omega) h]

/-- The frames of some records, the first of them the k-th. -/
def framesL : Nat → List (List Int) → List Int
  | _, [] => []
  | k, x :: xs => frameL k x ++ framesL (k + 1) xs

theorem framesL_nil (k : Nat) : framesL k [] = [] := rfl
theorem framesL_cons (k : Nat) (x : List Int) (xs : List (List Int)) : framesL k (x :: xs) = frameL k x ++ framesL (k + 1) xs := rfl
theorem framesL_snoc : ∀ (xs : List (List Int)) (k : Nat) (x : List Int), framesL k (xs ++ [x]) = framesL k xs ++ frameL ((k + xs.length : Nat) : Int) x := by
  intro xs
  induction xs with
  | nil =>
    intro k x
    rw [List.nil_append, framesL_cons, framesL_nil, framesL_nil, List.append_nil, List.nil_append, List.length_nil, Nat.add_zero]
  | cons y xs ih =>
    intro k x
    rw [List.cons_append, framesL_cons, framesL_cons, ih (k + 1) x, List.append_assoc, List.length_cons, show k + 1 + xs.length = k + (xs.length + 1) by omega]

/-- A list of frames is scanned. -/
theorem scanR_frames : ∀ (xs : List (List Int)) (f k p : Nat) (b : List Int), b.drop p = framesL k xs ++ b.drop (p + (framesL k xs).length) → b.length < 9223372036854775808 → k + xs.length < 9223372036854775808 → xs.length ≤ f → p ≤ b.length →
    ∃ pre, scanR f k p b = pre ++ scanR (f - xs.length) (k + xs.length) (p + (framesL k xs).length) b ∧ pre.map Prod.fst = xs ∧ (pre.getLast?.map Prod.snd).getD (p : Int) = ((p + (framesL k xs).length : Nat) : Int) := by
  intro xs
  induction xs with
  | nil => exact fun f k p b _ _ _ _ _ => ⟨[], by simp [framesL], rfl, by simp [framesL]⟩
  | cons x xs ih =>
    intro f k p b hd hb hk hf hp
    rw [framesL_cons] at hd ⊢
    have hlen := congrArg List.length hd
    simp only [List.length_append, List.length_drop] at hlen
    have hfp := frameL_pos k x
    have hpre : frameL k x <+: b.drop p := ⟨framesL (k + 1) xs ++ b.drop (p + (frameL k x ++ framesL (k + 1) xs).length), by rw [← List.append_assoc]; exact hd.symm⟩
    have hxl : x.length ≤ b.length := by
      have h1 := hpre.length_le
      rw [List.length_drop] at h1
      have : x.length ≤ (frameL k x).length := by simp [frameL, rawL, coreL]; omega
      omega
    have hrec := recL_frame k (by simp only [List.length_cons] at hk; omega) x (b.drop p) (by omega) hpre
    obtain ⟨f', rfl⟩ : ∃ f', f = f' + 1 := ⟨f - 1, by simp only [List.length_cons] at hf; omega⟩
    have hd2 : b.drop (p + (frameL k x).length) = framesL (k + 1) xs ++ b.drop (p + (frameL k x).length + (framesL (k + 1) xs).length) := by
      have := congrArg (List.drop (frameL k x).length) hd
      rw [List.drop_drop, List.append_assoc, List.drop_left, List.length_append] at this
      rw [this]
      congr 2
      omega
    have hle : p + (frameL k x).length ≤ b.length := by
      have := hpre.length_le
      rw [List.length_drop] at this
      omega
    obtain ⟨pre, h1, h2, h3⟩ := ih f' (k + 1) (p + (frameL k x).length) b hd2 hb (by simp only [List.length_cons] at hk; omega) (by simp only [List.length_cons] at hf; omega) hle
    rw [scanR_good f' k p b (by omega) (by rw [hrec]; exact hpre), hrec, h1]
    refine ⟨(x, ((p + (frameL k x).length : Nat) : Int)) :: pre, ?_, ?_, ?_⟩
    · simp only [List.cons_append, List.length_cons, List.length_append]
      congr 3 <;> omega
    · simp [h2]
    · rw [List.length_append, show p + ((frameL (↑k) x).length + (framesL (k + 1) xs).length) = p + (frameL (↑k) x).length + (framesL (k + 1) xs).length by omega, ← h3]
      cases pre with
      | nil => simp
      | cons a l => simp [List.getLast?_cons]
end Go.Proofs.Ytjnbbmiccbjjbaa.Ma
