/- The plain side of DiskPlan: a disk whose power fails at step M. -/
import Derived.Test.YtjnbbmiccbjjbaaCrP
namespace Go.Proofs.Ytjnbbmiccbjjbaa.Disk
open Go.RowKit Go.Proofs Go.Proofs.Ytjnbbmiccbjjbaa.Ma Go.Proofs.Ytjnbbmiccbjjbaa.Wire Go.Proofs.Ytjnbbmiccbjjbaa.MapI

def fives (s : Nat) : List Int := List.replicate s 5
/-- s bytes in file 1 alone. -/
def SF (s : Nat) (fs : List (Int × Fl)) : Prop := (s = 0 ∧ fs = []) ∨ (0 < s ∧ ∃ dur, 0 ≤ dur ∧ dur ≤ (s : Int) ∧ fs = [(1, ⟨fives s, dur⟩)])
/-- s bytes in file 1; the disk before step i. -/
structure PS (M i s : Nat) (d : Dsk) : Prop where
  room : d.room = 1000
  on : i ≤ M → d.off = false ∧ d.armed = true ∧ d.left = (M : Int) - i
  down : M < i → d.off = true
  fs : SF s d.fs
  le : s ≤ i
theorem fives_len (s : Nat) : (fives s).length = s := List.length_replicate
theorem PS.at {M i s : Nat} {d : Dsk} (h : PS M i s d) : (fileAt d.fs 1).b = fives s ∧ (0 ≤ (fileAt d.fs 1).dur ∧ (fileAt d.fs 1).dur ≤ (s : Int)) ∧ usedL d.fs = s := by
  rcases h.fs with ⟨rfl, e⟩ | ⟨h0, dur, h1, h2, e⟩
  · rw [e]; exact ⟨rfl, ⟨Int.le_refl _, Int.le_refl _⟩, rfl⟩
  · rw [e]
    refine ⟨rfl, ⟨h1, h2⟩, ?_⟩
    rw [usedL_cons]
    show (fives s).length + 0 = s
    rw [fives_len, Nat.add_zero]
theorem PS.set {M i s t : Nat} {d : Dsk} (h : PS M i s d) (dur : Int) (hd : 0 ≤ dur ∧ dur ≤ (t : Int)) : SF t (setF d.fs 1 ⟨fives t, dur⟩) := by
  have hput : putL d.fs 1 (⟨fives t, dur⟩ : Fl) = [(1, ⟨fives t, dur⟩)] := by
    rcases h.fs with ⟨_, e⟩ | ⟨_, dur', _, _, e⟩
    · rw [e]; rfl
    · rw [e]; rfl
  unfold setF
  rw [hput]
  by_cases h0 : t = 0
  · subst h0
    rw [if_pos (by simp [fives])]
    exact .inl ⟨rfl, rfl⟩
  · rw [if_neg (by simp [fives, h0])]
    exact .inr ⟨by omega, dur, hd.1, hd.2, rfl⟩
/-- A step. -/
theorem PS.step {M i s : Nat} {d : Dsk} (h : PS M i s d) (hi : i ≤ M) (hM : M < 100) : (stepD d).1 = decide (i < M) ∧ (stepD d).2.room = 1000 ∧ (stepD d).2.fs = d.fs ∧ (i + 1 ≤ M → (stepD d).2.off = false ∧ (stepD d).2.armed = true ∧ (stepD d).2.left = (M : Int) - (i + 1 : Nat)) ∧ (M < i + 1 → (stepD d).2.off = true) := by
  obtain ⟨h1, h2, h3⟩ := h.on hi
  unfold stepD
  rw [if_neg (by simp [h2])]
  by_cases hlt : i < M
  · rw [if_neg (by omega)]
    refine ⟨by rw [decide_eq_true hlt]; simp [h1], h.room, rfl, fun _ => ⟨h1, h2, ?_⟩, fun e => by omega⟩
    simp only
    omega
  · rw [if_pos (by omega)]
    refine ⟨by rw [decide_eq_false hlt], h.room, rfl, fun e => by omega, fun _ => rfl⟩
theorem hard_fs {s : Nat} {fs : List (Int × Fl)} (h : SF s fs) : SF s (fs.map (fun p => (p.1, hardF p.2))) := by
  rcases h with ⟨h0, e⟩ | ⟨h0, dur, h1, h2, e⟩
  · exact .inl ⟨h0, by rw [e]; rfl⟩
  · refine .inr ⟨h0, (s : Int), by omega, Int.le_refl _, ?_⟩
    rw [e]
    show [((1 : Int), hardF ⟨fives s, dur⟩)] = _
    unfold hardF
    simp only [fives_len]
theorem plan_sync {M i s : Nat} {d : Dsk} (h : PS M i s d) (hM : M < 100) : (syncD d).1 = (if i < M then 0 else 24) ∧ PS M (i + 1) s (syncD d).2 := by
  unfold syncD
  by_cases hi : i ≤ M
  · obtain ⟨h1, h2, h3⟩ := h.on hi
    obtain ⟨a1, a2, a3, a4, a5⟩ := h.step hi hM
    rw [if_neg (by simp [h1]), a1]
    by_cases hlt : i < M
    · rw [decide_eq_true hlt, if_pos rfl, if_pos hlt]
      refine ⟨rfl, a2, a4, a5, ?_, by have := h.le; omega⟩
      simp only
      rw [a3]
      exact hard_fs h.fs
    · rw [decide_eq_false hlt, if_neg (by simp), if_neg hlt]
      exact ⟨rfl, a2, a4, a5, by rw [a3]; exact h.fs, by have := h.le; omega⟩
  · have h1 := h.down (by omega)
    rw [if_pos h1, if_neg (by omega)]
    exact ⟨rfl, h.room, fun e => by omega, fun _ => h1, h.fs, by have := h.le; omega⟩
theorem plan_append {M i s : Nat} {d : Dsk} (h : PS M i s d) (hM : M < 100) (hi12 : i < 12) : (appendD d 1 [5]).1 = (if i < M then 0 else 24) ∧ PS M (i + 1) (if i ≤ M then s + 1 else s) (appendD d 1 [5]).2 := by
  obtain ⟨b1, b2, b3⟩ := h.at
  unfold appendD
  rw [if_neg (by omega)]
  by_cases hi : i ≤ M
  · obtain ⟨h1, h2, h3⟩ := h.on hi
    have hle := h.le
    rw [if_neg (by simp [h1]), if_neg (by rw [h.room, b3]; simp only [List.length_singleton]; omega), b1]
    have e5 : fives s ++ [5] = fives (s + 1) := by unfold fives; rw [List.replicate_succ']
    rw [e5]
    have hP : PS M i (s + 1) { d with fs := setF d.fs 1 ⟨fives (s + 1), (fileAt d.fs 1).dur⟩ } ∨ True := .inr trivial
    clear hP
    have hfs := h.set (t := s + 1) (fileAt d.fs 1).dur ⟨b2.1, by omega⟩
    have hst : (stepD { d with fs := setF d.fs 1 ⟨fives (s + 1), (fileAt d.fs 1).dur⟩ }) = ((stepD d).1, { (stepD d).2 with fs := setF d.fs 1 ⟨fives (s + 1), (fileAt d.fs 1).dur⟩ }) := by
      unfold stepD
      simp only
      split
      · rfl
      · split <;> rfl
    obtain ⟨a1, a2, a3, a4, a5⟩ := h.step hi hM
    rw [hst, if_pos hi]
    simp only
    rw [a1]
    refine ⟨?_, a2, a4, a5, hfs, by omega⟩
    by_cases hlt : i < M
    · rw [decide_eq_true hlt, if_pos rfl, if_pos hlt]
    · rw [decide_eq_false hlt, if_neg (by simp), if_neg hlt]
  · have h1 := h.down (by omega)
    rw [if_pos h1, if_neg (by omega), if_neg hi]
    exact ⟨rfl, h.room, fun e => by omega, fun _ => h1, h.fs, by have := h.le; omega⟩
theorem plan_trunc {M i s : Nat} {d : Dsk} (h : PS M i s d) (hM : M < 100) (hs : 0 < s) : (truncD d 1 ((s : Int) - 1)).1 = (if i < M then 0 else 24) ∧ PS M (i + 1) (if i < M then s - 1 else s) (truncD d 1 ((s : Int) - 1)).2 := by
  obtain ⟨b1, b2, b3⟩ := h.at
  unfold truncD
  rw [b1, fives_len, if_neg (by omega)]
  by_cases hi : i ≤ M
  · obtain ⟨h1, h2, h3⟩ := h.on hi
    obtain ⟨a1, a2, a3, a4, a5⟩ := h.step hi hM
    rw [if_neg (by simp [h1]), a1]
    by_cases hlt : i < M
    · rw [decide_eq_true hlt, if_pos rfl, if_pos hlt, if_pos hlt]
      have e5 : (fives s).take ((s : Int) - 1).toNat = fives (s - 1) := by
        unfold fives
        rw [List.take_replicate]
        congr 1
        omega
      refine ⟨rfl, a2, a4, a5, ?_, by have := h.le; omega⟩
      simp only
      rw [a3, e5]
      exact h.set (if (s : Int) - 1 < (fileAt d.fs 1).dur then (s : Int) - 1 else (fileAt d.fs 1).dur) (by split <;> omega)
    · rw [decide_eq_false hlt, if_neg (by simp), if_neg hlt, if_neg hlt]
      exact ⟨rfl, a2, a4, a5, by rw [a3]; exact h.fs, by have := h.le; omega⟩
  · have h1 := h.down (by omega)
    rw [if_pos h1, if_neg (by omega), if_neg (by omega)]
    exact ⟨rfl, h.room, fun e => by omega, fun _ => h1, h.fs, by have := h.le; omega⟩
theorem keys1 (f : Fl) : keysS [((1 : Int), f)] = [1] := by unfold keysS; simp
theorem plan_crash {M i s : Nat} {d : Dsk} (h : PS M i s d) (hs : s ≤ 12) : readD (crashD d [1000] (-1)) 1 = (fives s, 0) ∧ (crashD d [1000] (-1)).off = false ∧ (syncD (crashD d [1000] (-1))).1 = 0 := by
  have hfl : ∀ (fs : List (Int × Fl)) L, flipD fs L (-1) = fs := fun fs L => by unfold flipD; rw [if_neg (by omega)]
  have hsync : (syncD (crashD d [1000] (-1))).1 = 0 := by
    have e1 : (crashD d [1000] (-1)).off = false := rfl
    have e2 : (crashD d [1000] (-1)).armed = false := rfl
    generalize crashD d [1000] (-1) = d' at e1 e2 ⊢
    unfold syncD stepD
    rw [if_neg (by rw [e1]; simp), if_pos e2, if_pos rfl]
  refine ⟨?_, rfl, hsync⟩
  unfold readD
  rw [if_neg (by omega), if_neg (show ¬ (crashD d [1000] (-1)).off = true from fun e => by cases e)]
  have hb : (fileAt (crashD d [1000] (-1)).fs 1).b = fives s := by
    unfold crashD
    simp only
    rw [hfl, fileAt_hard]
    show (fileAt _ 1).b = _
    rcases h.fs with ⟨rfl, e⟩ | ⟨h0, dur, h1, h2, e⟩
    · rw [e, show keysS [] = [] by simp [keysS]]; rfl
    · rw [e, keys1]
      show (fileAt (Disk.cut1 [1000] 0 1 [(1, ⟨fives s, dur⟩)]) 1).b = _
      unfold Disk.cut1
      rw [fileAt_set, if_pos rfl]
      have e1 : fileAt [((1 : Int), (⟨fives s, dur⟩ : Fl))] 1 = ⟨fives s, dur⟩ := rfl
      rw [e1]
      show (if (cutF ⟨fives s, dur⟩ (kI [1000] 0 (((fives s).length : Int) - dur))).b.length = 0 then noFl else (cutF ⟨fives s, dur⟩ (kI [1000] 0 (((fives s).length : Int) - dur)))).b = _
      have hk : kI [1000] 0 (((fives s).length : Int) - dur) = (s : Int) - dur := by
        unfold kI
        rw [if_pos (by simp), fives_len]
        show max 0 (min (1000 : Int) _) = _
        omega
      rw [hk]
      have hc : (cutF ⟨fives s, dur⟩ ((s : Int) - dur)) = ⟨fives s, dur⟩ := by
        unfold cutF
        simp only
        rw [List.take_of_length_le (by rw [fives_len]; omega)]
      rw [hc, if_neg (by rw [fives_len]; omega)]
  rw [hb]
end Go.Proofs.Ytjnbbmiccbjjbaa.Disk
