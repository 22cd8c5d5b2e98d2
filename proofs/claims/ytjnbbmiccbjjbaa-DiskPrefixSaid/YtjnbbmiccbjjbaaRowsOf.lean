/- A slice of slices of bytes that came in, as the laws read it. -/
import Derived.Deep.Matrix
import Derived.Test.YtjnbbmiccbjjbaaRf7a
namespace Go.Proofs.Ytjnbbmiccbjjbaa.Few
open Go.RowKit Go.Proofs Go.Proofs.YtjnbbmiccbjjbaaW.PrintWords

theorem rows_of {w : World} {base : Nat} {a : Addr} {l c : Nat} {A : Nat → Option Addr} {L C : Nat → Nat} {Z : Nat → List Int} (hl : l ≤ c) (hm : c ≤ maxLen)
    (hr : ∀ r, r < c → w.cell? (a.add r) = some (.slice (A r) (L r) (C r)) ∧ L r ≤ C r ∧ C r ≤ maxLen ∧ (Z r).length = C r ∧ (∀ n ∈ Z r, (Lit.int .u8 n).wf = true) ∧ (A r = none → C r = 0) ∧
        ∀ a', A r = some a' → base ≤ a'.block ∧ ∀ c, c < C r → w.cell? (a'.add c) = some (.int .u8 ((Z r).getD c 0))) :
    ∃ ls : List (List Int), ls.length = l ∧ Kd.C (Kd.slice 5 (Kd.int .u8)) w (some a) ls.length ls ∧ ∀ x ∈ ls, ∀ y ∈ x, (Lit.int .u8 y).wf = true := by
  have hlen : ((List.range l).map fun r => (Z r).take (L r)).length = l := by simp
  refine ⟨(List.range l).map fun r => (Z r).take (L r), hlen, ⟨rfl, by unfold maxLen at hm; omega, fun _ => ⟨a, rfl, fun j p hj => ?_⟩⟩, ?_⟩
  · rw [List.getElem?_map] at hj
    have hjl : j < l := by
      rcases Nat.lt_or_ge j l with h | h
      · exact h
      · rw [List.getElem?_eq_none (by simpa using h)] at hj; cases hj
    rw [List.getElem?_range hjl] at hj
    obtain rfl : (Z j).take (L j) = p := by simpa using hj
    obtain ⟨h1, h2, h3, h4, h5, h6, h7⟩ := hr j (by omega)
    have hlj : ((Z j).take (L j)).length = L j := by rw [List.length_take]; omega
    refine ⟨[.slice (A j) (L j) (C j)], rfl, ⟨A j, C j, by rw [hlj], by rw [hlj]; exact h2, ⟨rfl, by unfold maxLen at h3; omega, fun h0 => ?_⟩⟩, fun i u hi => ?_⟩
    · cases hA : A j with
      | none => have := h6 hA; omega
      | some a' =>
        refine ⟨a', rfl, fun i y hi => ⟨[.int .u8 y], rfl, rfl, fun i2 u hi2 => ?_⟩⟩
        match i2, hi2 with
        | 0, hi2 =>
          obtain rfl : Value.int .u8 y = u := by simpa using hi2
          have hil : i < L j := by
            rcases Nat.lt_or_ge i (L j) with h | h
            · exact h
            · rw [List.getElem?_eq_none (by rw [hlj]; exact h)] at hi; cases hi
          have := (h7 a' hA).2 i (by omega)
          have e : (Z j).getD i 0 = y := by
            rw [List.getElem?_take, if_pos hil] at hi
            rw [List.getD_eq_getElem?_getD, hi]
            rfl
          rw [e] at this
          simpa [Kd.int, Kd.scalar] using this
    · match i, hi with
      | 0, hi =>
        obtain rfl : Value.slice (A j) (L j) (C j) = u := by simpa using hi
        simpa [Kd.slice] using h1
  · intro x hx y hy
    obtain ⟨r, hr1, rfl⟩ := List.mem_map.1 hx
    exact (hr r (by have := List.mem_range.1 hr1; omega)).2.2.2.2.1 y (List.mem_of_mem_take hy)
end Go.Proofs.Ytjnbbmiccbjjbaa.Few
