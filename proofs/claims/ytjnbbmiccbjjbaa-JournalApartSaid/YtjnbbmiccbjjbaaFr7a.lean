/- Frames and what Scan makes of them: the plain side. -/
import Derived.Test.YtjnbbmiccbjjbaaRf7a
import Derived.Test.YtjnbbmiccbjjbaaPl7
namespace Go.Proofs.Ytjnbbmiccbjjbaa.Fr7
open Go.RowKit Go.Proofs Go.Proofs.Ytjnbbmiccbjjbaa.Ma Go.Proofs.Ytjnbbmiccbjjbaa.Wire Go.Proofs.Ytjnbbmiccbjjbaa.Rdr Go.Proofs.Ytjnbbmiccbjjbaa.Few Go.Proofs.Ytjnbbmiccbjjbaa.Ref07 Go.Proofs.YtjnbbmiccbjjbaaW.PrintWords Go.Proofs.YtjnbbmiccbjjbaaW.PrintLast

theorem scanR_len : ∀ (f k p : Nat) (b : List Int), (scanR f k p b).length ≤ f := by
  intro f
  induction f with
  | zero => intro k p b; exact Nat.le_refl _
  | succ f ih =>
    intro k p b
    rw [scanR]
    split
    · split
      · rw [List.length_cons]; have := ih (k + 1) (p + (frameL k (recL (b.drop p))).length) b; omega
      · simp
    · simp
theorem scanR_mem : ∀ (f k p : Nat) (b : List Int) (r : List Int × Int), r ∈ scanR f k p b → r.1.length ≤ b.length := by
  intro f
  induction f with
  | zero => intro k p b r h; cases h
  | succ f ih =>
    intro k p b r h
    rw [scanR] at h
    split at h
    · split at h
      · rcases List.mem_cons.1 h with rfl | h
        · have := recL_len (b.drop p); rw [List.length_drop] at this; simp only; omega
        · exact ih _ _ _ _ h
      · cases h
    · cases h
theorem scanR_ge : ∀ (f k p : Nat) (b : List Int), (p : Int) ≤ ((scanR f k p b).getLast?.map Prod.snd).getD (p : Int) := by
  intro f
  induction f with
  | zero => intro k p b; exact Int.le_refl _
  | succ f ih =>
    intro k p b
    rw [scanR]
    split
    · split
      · have h := ih (k + 1) (p + (frameL k (recL (b.drop p))).length) b
        generalize scanR f (k + 1) (p + (frameL k (recL (b.drop p))).length) b = l at h
        cases l with
        | nil => simp; omega
        | cons a l =>
          rw [List.getLast?_cons]
          simp only [Option.map_some, Option.getD_some]
          rw [List.getLast?_cons] at h ⊢
          simp only [Option.map_some, Option.getD_some] at h ⊢
          omega
      · simp
    · simp
theorem framesL_len : ∀ (xs : List (List Int)) (k : Nat), (∀ x ∈ xs, x.length ≤ 200) → k + xs.length ≤ 1000 → xs.length ≤ (framesL k xs).length ∧ (framesL k xs).length ≤ 240 * xs.length := by
  intro xs
  induction xs with
  | nil => intro k _ _; exact ⟨Nat.le_refl _, Nat.le_refl _⟩
  | cons x xs ih =>
    intro k h hk
    rw [List.length_cons] at hk
    have h1 := ih (k + 1) (fun y hy => h y (by simp [hy])) (by omega)
    have h2 := h x (by simp)
    have h3 := frameL_length k (by omega) x (by omega)
    have h4 := frameL_pos k x
    rw [framesL_cons, List.length_append, List.length_cons]
    omega
theorem framesL_byte : ∀ (xs : List (List Int)) (k : Nat), (∀ x ∈ xs, ∀ y ∈ x, 0 ≤ y ∧ y ≤ 255) → ∀ y ∈ framesL k xs, 0 ≤ y ∧ y ≤ 255 := by
  intro xs
  induction xs with
  | nil => intro k _ y hy; cases hy
  | cons x xs ih =>
    intro k h
    rw [framesL_cons]
    exact bytes_append (frameL_byte k x (h x (by simp))) (ih (k + 1) (fun z hz => h z (by simp [hz])))

/-- What Scan makes of a list of frames followed by any bytes. -/
theorem frames_scan (xs : List (List Int)) (r : List Int) (hx : ∀ x ∈ xs, x.length ≤ 200) (hk : xs.length ≤ 1000) (hr : r.length ≤ 1000) :
    ∃ more, (scanR ((framesL 0 xs ++ r).length + 1) 0 0 (framesL 0 xs ++ r)).map Prod.fst = xs ++ more ∧ ((framesL 0 xs).length : Int) ≤ endL (scanR ((framesL 0 xs ++ r).length + 1) 0 0 (framesL 0 xs ++ r)) := by
  obtain ⟨hl1, hl2⟩ := framesL_len xs 0 hx (by omega)
  have hb : (framesL 0 xs ++ r).length < 9223372036854775808 := by rw [List.length_append]; omega
  obtain ⟨pre, h1, h2, h3⟩ := scanR_frames xs ((framesL 0 xs ++ r).length + 1) 0 0 (framesL 0 xs ++ r) (by rw [List.drop_zero, Nat.zero_add, List.drop_left]) hb (by omega) (by rw [List.length_append]; omega) (Nat.zero_le _)
  have hg := scanR_ge ((framesL 0 xs ++ r).length + 1 - xs.length) (0 + xs.length) (0 + (framesL 0 xs).length) (framesL 0 xs ++ r)
  rw [h1]
  generalize scanR ((framesL 0 xs ++ r).length + 1 - xs.length) (0 + xs.length) (0 + (framesL 0 xs).length) (framesL 0 xs ++ r) = more at hg ⊢
  refine ⟨more.map Prod.fst, by rw [List.map_append, h2], ?_⟩
  rw [Nat.zero_add] at hg h3
  unfold endL
  rw [List.getLast?_append]
  cases hm : more.getLast? with
  | none =>
    rw [Option.none_or]
    have h3' : (pre.getLast?.map Prod.snd).getD 0 = ((framesL 0 xs).length : Int) := h3
    rw [h3']
    exact Int.le_refl _
  | some a =>
    rw [hm] at hg
    exact hg

theorem cut_rows (A : Option Addr) (n c m : Nat) (h2 : m ≤ c) : ∀ W : World, (Instr.slice 22 (.slice A n c) none (some (.int .i64 m)) none).run Try.prog W = .ok (.slice A m c) W := by
  intro W
  obtain ⟨i0, hi, hz0, hz1, hz2⟩ := info_parts infoRow
  have hel : Try.prog.elem 22 = 27 := by simp [Program.elem, Try.underlying22]
  have hu : Try.prog.underlying 22 = some (.slice (Try.prog.elem 22)) := by rw [hel]; exact Try.underlying22
  have ha : (A.map fun x => x.add 0) = A := by cases A <;> simp [Addr.add]
  rw [run_slice_h W 22 A n c hu .i64 (m : Int) (by omega) (by omega), hel]
  simp [sizeOf, typeInfo, hi, hz1, sliced, Result.andThen, ha]

end Go.Proofs.Ytjnbbmiccbjjbaa.Fr7
