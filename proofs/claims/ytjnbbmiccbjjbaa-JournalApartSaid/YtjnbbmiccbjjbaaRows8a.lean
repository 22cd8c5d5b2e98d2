/- Lists of byte slices that lie in blocks which a disk's methods leave alone; and the plain side of a log. -/
import Derived.Test.YtjnbbmiccbjjbaaLoga
import Derived.Test.YtjnbbmiccbjjbaaRec7a
import Derived.Test.YtjnbbmiccbjjbaaFr7a
namespace Go.Proofs.Ytjnbbmiccbjjbaa.Jnl
open Go.RowKit Go.Proofs Go.Proofs.Ytjnbbmiccbjjbaa.Ma Go.Proofs.Ytjnbbmiccbjjbaa.Wire Go.Proofs.Ytjnbbmiccbjjbaa.Rdr Go.Proofs.Ytjnbbmiccbjjbaa.MapI Go.Proofs.Ytjnbbmiccbjjbaa.Scan Go.Proofs.Ytjnbbmiccbjjbaa.Few Go.Proofs.Ytjnbbmiccbjjbaa.Ref07 Go.Proofs.Ytjnbbmiccbjjbaa.Lives7 Go.Proofs.Ytjnbbmiccbjjbaa.Fr7 Go.Proofs.Ytjnbbmiccbjjbaa.Disk Go.Proofs.YtjnbbmiccbjjbaaW.PrintWords Go.Proofs.YtjnbbmiccbjjbaaW.PrintLast

/-- A byte slice, as an element, whose block ok holds, in one world. -/
def K8 (wX : World) (ok : Nat → Prop) : Kd (List Int) where
  sz := 1
  E := []
  K := fun _ x cs => ∃ A c, cs = [.slice A x.length c] ∧ x.length ≤ c ∧ Row8 wX ok A x
  M := fun _ _ _ x cs => ∃ A c, cs = [.slice A x.length c] ∧ x.length ≤ c ∧ Row8 wX ok A x
  K_len := by
    rintro w x cs ⟨A, c, rfl, _⟩
    rfl
  K_one := by
    rintro w x cs ⟨A, c, rfl, _⟩ u hu
    rw [List.mem_singleton.1 hu]
    rfl
  K_below := fun _ h => h
  K_of_M := fun h => h
  M_mono := fun _ h => h
  M_bound := fun h => h
  M_move := fun _ h => h
  M_lower := fun _ h => h

theorem k8_reads {wX w : World} {ok : Nat → Prop} {A : Option Addr} {n : Nat} {xs : List (List Int)} (hs : ∀ x ∈ xs, x.length ≤ 9223372036854775807) (hb : ∀ k, ok k → w.heap[k]? = wX.heap[k]?) (h : (K8 wX ok).C w A n xs) : KL.C w A n xs := by
  obtain ⟨h1, h2, h3⟩ := h
  refine ⟨h1, h2, fun hp => ?_⟩
  obtain ⟨ad, e, h4⟩ := h3 hp
  refine ⟨ad, e, fun j p hj => ?_⟩
  obtain ⟨cs, hl, hK, hc⟩ := h4 j p hj
  refine ⟨cs, hl, ?_, hc⟩
  obtain ⟨A, c, rfl, hlc, hr⟩ := hK
  exact ⟨A, c, rfl, hlc, (hr.same (D' := ok) (fun _ h => h) (fun k hk _ _ => hb k hk)).c (hs p (List.mem_of_getElem? hj))⟩

/-- An element of a list of rows of one's own. -/
theorem row_get {w : World} {e base : Nat} {ok : Nat → Prop} {A : Option Addr} {n c : Nat} {xs : List (List Int)} (h : KL.R e w base ok (.slice A n c) xs) (i : Nat) (hi : i < n) (hx : i < xs.length) :
    ∃ ad Ax cx, A = some ad ∧ w.cell? (ad.add i) = some (.slice Ax xs[i].length cx) ∧ xs[i].length ≤ cx ∧ Row8 w ok Ax xs[i] := by
  cases A with
  | none =>
    have := (Kd.R_reads' h).1
    obtain ⟨_, inner, ho, _⟩ := h
    rcases ho.2 with ⟨hv, hin⟩ | ⟨g, cap', cur, hv, _⟩
    · injection hv with _ hv
      omega
    · cases hv
  | some ad =>
    obtain ⟨cs, hcl, hM, hc⟩ := Go.Proofs.YtjnbbmiccbjjbaaW.PrintMore.Kd.R_get h [] (i : Int) (by omega) (by omega)
    rw [Int.toNat_natCast] at hM hc
    have e : xs.getD i [] = xs[i] := by simp [List.getD_eq_getElem?_getD, hx]
    rw [e] at hM
    obtain ⟨v, rfl, hR⟩ := hM
    obtain ⟨Ax, cx, rfl, hl, _⟩ := Kd.R_reads hR
    have := hc 0 _ rfl
    exact ⟨ad, Ax, cx, rfl, by simpa [KL, Kd.slice] using this, hl, row8_of_own (Kd.own_of_R hR) (fun k hk => (hR.1 k hk).1)⟩

/-- A disk that holds a log's frames in one file, all of them durable. -/
def dF (left room file : Int) (xs : List (List Int)) : Dsk := ⟨if xs = [] then [] else [(file, ⟨framesL 0 xs, ((framesL 0 xs).length : Int)⟩)], room, false, false, left⟩

theorem framesL_ne {xs : List (List Int)} (h : xs ≠ []) : 0 < (framesL 0 xs).length := by
  cases xs with
  | nil => exact absurd rfl h
  | cons x xs => rw [framesL_cons, List.length_append]; have := frameL_pos ((0 : Nat) : Int) x; omega
theorem dF_used (left room file : Int) (xs : List (List Int)) : usedL (dF left room file xs).fs = (framesL 0 xs).length := by
  unfold dF
  by_cases h : xs = []
  · rw [if_pos h, h]; rfl
  · rw [if_neg h]; exact Nat.add_zero _
theorem dF_at (left room file : Int) (xs : List (List Int)) : fileAt (dF left room file xs).fs file = ⟨framesL 0 xs, ((framesL 0 xs).length : Int)⟩ := by
  unfold dF
  by_cases h : xs = []
  · rw [if_pos h, h]; rfl
  · rw [if_neg h]; exact (fileAt_cons _ _ _).trans (if_pos rfl)
theorem dF_ok {left room file : Int} {xs : List (List Int)} (hr : 0 ≤ room ∧ room ≤ 16777216) (hf : 0 ≤ file ∧ file < 64) (hb : ∀ x ∈ xs, ∀ y ∈ x, 0 ≤ y ∧ y ≤ 255) (hu : ((framesL 0 xs).length : Int) ≤ room) : DOk (dF left room file xs) := by
  refine ⟨(fun h => by cases h), hr, by rw [dF_used]; exact hu, ?_, ?_⟩
  · unfold dF
    by_cases h : xs = []
    · rw [if_pos h]; simp
    · rw [if_neg h]; simp
  · intro p hp
    unfold dF at hp
    by_cases h : xs = []
    · rw [if_pos h] at hp; cases hp
    · rw [if_neg h] at hp
      rw [List.mem_singleton.1 hp]
      have := framesL_ne h
      refine ⟨hf, (fun e => by rw [show framesL 0 xs = [] from e] at this; cases this), ⟨by show 0 ≤ ((framesL 0 xs).length : Int); omega, Int.le_refl _⟩, framesL_byte xs 0 hb⟩
theorem setF_dF (left room file dur : Int) (xs : List (List Int)) (x : List Int) : (setF (dF left room file xs).fs file ⟨framesL 0 xs ++ frameL (xs.length : Int) x, dur⟩).map (fun p => (p.1, hardF p.2)) = (dF left room file (xs ++ [x])).fs := by
  have e : framesL 0 (xs ++ [x]) = framesL 0 xs ++ frameL (xs.length : Int) x := by rw [framesL_snoc, Nat.zero_add]
  have hp : ¬ (framesL 0 xs ++ frameL (xs.length : Int) x).length = 0 := by rw [List.length_append]; have := frameL_pos (xs.length : Int) x; omega
  unfold setF
  rw [if_neg hp]
  unfold dF putL
  rw [e, if_neg (show ¬ xs ++ [x] = [] by simp)]
  by_cases h : xs = []
  · subst h
    rfl
  · simp only [if_neg h]
    simp [hardF]
theorem lap_fits {left room file : Int} (hf : 0 ≤ file ∧ file < 64) (xs : List (List Int)) (x : List Int) (hx : x.length ≤ 65536) (hu : ((framesL 0 xs).length : Int) + (frameL (xs.length : Int) x).length ≤ room) :
    lapD (dF left room file xs) file (xs.length : Int) false x = (0, dF left room file (xs ++ [x]), (xs.length : Int) + 1, false) := by
  have ha : appendD (dF left room file xs) file (frameL (xs.length : Int) x) = (0, { dF left room file xs with fs := setF (dF left room file xs).fs file ⟨framesL 0 xs ++ frameL (xs.length : Int) x, ((framesL 0 xs).length : Int)⟩ }) := by
    unfold appendD
    rw [if_neg (fun h => h hf), if_neg (show ¬ (dF left room file xs).off = true by simp [dF]), dF_used, dF_at, if_neg (show ¬ (dF left room file xs).room - ((framesL 0 xs).length : Int) < _ by show ¬ room - _ < _; omega)]
    unfold stepD
    rw [if_pos (show (dF left room file xs).armed = false from rfl)]
    rfl
  have hs : syncD { dF left room file xs with fs := setF (dF left room file xs).fs file ⟨framesL 0 xs ++ frameL (xs.length : Int) x, ((framesL 0 xs).length : Int)⟩ } = (0, dF left room file (xs ++ [x])) := by
    unfold syncD
    rw [if_neg (show ¬ (dF left room file xs).off = true by simp [dF])]
    unfold stepD
    simp only [show (dF left room file xs).armed = false from rfl, if_pos]
    rw [setF_dF]
    rfl
  unfold lapD
  rw [if_neg (by omega), if_neg (by simp), ha]
  simp only [if_pos]
  rw [hs]
  rfl
theorem lap_full {left room file : Int} (hf : 0 ≤ file ∧ file < 64) (xs : List (List Int)) (x : List Int) (hx : x.length ≤ 65536) (hu : room < ((framesL 0 xs).length : Int) + (frameL (xs.length : Int) x).length) :
    lapD (dF left room file xs) file (xs.length : Int) false x = (23, dF left room file xs, (xs.length : Int), false) := by
  have ha : appendD (dF left room file xs) file (frameL (xs.length : Int) x) = (23, dF left room file xs) := by
    unfold appendD
    rw [if_neg (fun h => h hf), if_neg (show ¬ (dF left room file xs).off = true by simp [dF]), dF_used, if_pos (show (dF left room file xs).room - ((framesL 0 xs).length : Int) < _ by show room - _ < _; omega)]
  unfold lapD
  rw [if_neg (by omega), if_neg (by simp), ha]
  rfl
theorem lap_long (d : Dsk) (file n : Int) (down : Bool) (x : List Int) (hx : 65536 < x.length) : lapD d file n down x = (4, d, n, down) := by
  unfold lapD
  rw [if_pos hx]
theorem sync_dF (left room file : Int) (xs : List (List Int)) : syncD (dF left room file xs) = (0, dF left room file xs) := by
  unfold syncD
  rw [if_neg (show ¬ (dF left room file xs).off = true by simp [dF])]
  unfold stepD
  rw [if_pos (show (dF left room file xs).armed = false from rfl)]
  simp only [if_pos]
  unfold dF
  by_cases h : xs = []
  · simp only [if_pos h]; rfl
  · simp only [if_neg h]; rfl
theorem scans_frames (xs : List (List Int)) (hx : ∀ x ∈ xs, x.length ≤ 200) (hk : xs.length ≤ 1000) : (scansL (framesL 0 xs)).map Prod.fst = xs ∧ endL (scansL (framesL 0 xs)) = ((framesL 0 xs).length : Int) := by
  obtain ⟨hl1, hl2⟩ := framesL_len xs 0 hx (by omega)
  obtain ⟨pre, h1, h2, h3⟩ := scanR_frames xs ((framesL 0 xs).length + 1) 0 0 (framesL 0 xs) (by rw [List.drop_zero, Nat.zero_add, List.drop_eq_nil_of_le (Nat.le_refl _), List.append_nil]) (by omega) (by omega) (by omega) (Nat.zero_le _)
  rw [scanR_end _ _ _ _ (show ¬ 0 + (framesL 0 xs).length < (framesL 0 xs).length by omega), List.append_nil] at h1
  unfold scansL
  rw [h1]
  rw [Nat.zero_add] at h3
  exact ⟨h2, h3⟩
theorem open_dF {left room file : Int} (hf : 0 ≤ file ∧ file < 64) (xs : List (List Int)) (hx : ∀ x ∈ xs, x.length ≤ 200) (hk : xs.length ≤ 1000) :
    readD (dF left room file xs) file = (framesL 0 xs, 0) ∧ openD (dF left room file xs) file = (0, dF left room file xs) := by
  have hr : readD (dF left room file xs) file = (framesL 0 xs, 0) := by
    unfold readD
    rw [if_neg (fun h => h hf), if_neg (show ¬ (dF left room file xs).off = true by simp [dF]), dF_at]
  refine ⟨hr, ?_⟩
  unfold openD
  rw [hr]
  simp only [if_pos]
  rw [(scans_frames xs hx hk).2, if_neg (Int.lt_irrefl _), sync_dF]
theorem open_far (d : Dsk) (n : Int) (hn : ¬ (0 ≤ n ∧ n < 64)) : openD d n = (1, d) := by
  unfold openD readD
  rw [if_pos hn]
  rfl
theorem new_dF (room file : Int) : newDsk room = dF 0 room file [] := rfl
end Go.Proofs.Ytjnbbmiccbjjbaa.Jnl
