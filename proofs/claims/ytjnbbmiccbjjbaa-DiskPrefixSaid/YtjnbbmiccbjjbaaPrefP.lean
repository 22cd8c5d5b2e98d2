/- The plain side of DiskPrefix: one file, appended to, synced, crashed. -/
import Derived.Test.YtjnbbmiccbjjbaaCrP
namespace Go.Proofs.Ytjnbbmiccbjjbaa.Disk
open Go.RowKit Go.Proofs Go.Proofs.Ytjnbbmiccbjjbaa.Ma Go.Proofs.Ytjnbbmiccbjjbaa.Wire Go.Proofs.Ytjnbbmiccbjjbaa.MapI

def fs9 (a : List Int) (f : Int) : List (Int × Fl) := if a = [] then [] else [(9, ⟨a, f⟩)]
def dsk9 (room : Int) (a : List Int) (f : Int) : Dsk := ⟨fs9 a f, room, false, false, 0⟩
theorem fs9_at (a : List Int) (f : Int) (h : a = [] → f = 0) : fileAt (fs9 a f) 9 = ⟨a, f⟩ := by
  unfold fs9
  by_cases ha : a = []
  · rw [if_pos ha, ha, h ha]; rfl
  · rw [if_neg ha]; rfl
theorem fs9_used (a : List Int) (f : Int) : usedL (fs9 a f) = a.length := by
  unfold fs9
  by_cases ha : a = []
  · rw [if_pos ha, ha]; rfl
  · rw [if_neg ha]; rfl
theorem fs9_set (a : List Int) (f : Int) (b : List Int) (g : Int) : setF (fs9 a f) 9 ⟨b, g⟩ = fs9 b g := by
  have hput : putL (fs9 a f) 9 (⟨b, g⟩ : Fl) = [(9, ⟨b, g⟩)] := by
    unfold fs9
    by_cases ha : a = []
    · rw [if_pos ha]; rfl
    · rw [if_neg ha]; rfl
  unfold setF
  rw [hput]
  unfold fs9
  by_cases hb : b = []
  · subst hb; rfl
  · rw [if_neg (show ¬ (⟨b, g⟩ : Fl).b.length = 0 from fun e => hb (List.eq_nil_of_length_eq_zero e)), if_neg hb]
theorem fs9_hard (a : List Int) (f : Int) : (fs9 a f).map (fun p => (p.1, hardF p.2)) = fs9 a (a.length : Int) := by
  unfold fs9
  by_cases ha : a = []
  · rw [if_pos ha, if_pos ha]; rfl
  · rw [if_neg ha, if_neg ha]; rfl
theorem new9 (room : Int) : newDsk room = dsk9 room [] 0 := rfl
theorem step9 (room : Int) (a : List Int) (f : Int) : stepD (dsk9 room a f) = (true, dsk9 room a f) := by
  unfold stepD
  rw [if_pos (show (dsk9 room a f).armed = false from rfl)]
theorem append9 {room : Int} {a bs : List Int} {f : Int} (h : a = [] → f = 0) (hl : ((a.length + bs.length : Nat) : Int) ≤ room) : appendD (dsk9 room a f) 9 bs = (0, dsk9 room (a ++ bs) f) := by
  unfold appendD
  rw [if_neg (by omega), if_neg (show ¬ (dsk9 room a f).off = true from fun e => by cases e)]
  rw [if_neg (show ¬ (dsk9 room a f).room - ((usedL (dsk9 room a f).fs : Nat) : Int) < _ by show ¬ room - ((usedL (fs9 a f) : Nat) : Int) < _; rw [fs9_used]; omega)]
  have e1 : fileAt (dsk9 room a f).fs 9 = ⟨a, f⟩ := fs9_at a f h
  rw [e1]
  have e2 : ({ dsk9 room a f with fs := setF (dsk9 room a f).fs 9 ⟨a ++ bs, f⟩ } : Dsk) = dsk9 room (a ++ bs) f := by
    show (⟨setF (fs9 a f) 9 ⟨a ++ bs, f⟩, room, false, false, 0⟩ : Dsk) = _
    rw [fs9_set]
    rfl
  show (if (stepD ({ dsk9 room a f with fs := setF (dsk9 room a f).fs 9 ⟨a ++ bs, f⟩ } : Dsk)).1 = true then (0 : Int) else 24, (stepD ({ dsk9 room a f with fs := setF (dsk9 room a f).fs 9 ⟨a ++ bs, f⟩ } : Dsk)).2) = _
  rw [e2, step9]
  rfl
theorem sync9 (room : Int) (a : List Int) (f : Int) : syncD (dsk9 room a f) = (0, dsk9 room a (a.length : Int)) := by
  unfold syncD
  rw [if_neg (show ¬ (dsk9 room a f).off = true from fun e => by cases e), step9, if_pos rfl]
  show ((0 : Int), (⟨(fs9 a f).map fun p => (p.1, hardF p.2), room, false, false, 0⟩ : Dsk)) = _
  rw [fs9_hard]
  rfl
theorem read9 (room : Int) (a : List Int) (f : Int) : readD (dsk9 room a f) 9 = (a, 0) := by
  unfold readD
  rw [if_neg (by omega), if_neg (show ¬ (dsk9 room a f).off = true from fun e => by cases e)]
  have : (fileAt (fs9 a f) 9).b = a := by
    unfold fs9
    by_cases ha : a = []
    · rw [if_pos ha, ha]; rfl
    · rw [if_neg ha]; rfl
  show ((fileAt (fs9 a f) 9).b, (0 : Int)) = _
  rw [this]

/-- How many bytes are left. -/
def n9 (len f : Nat) (keep : Int) : Nat := f + (max 0 (min keep ((len : Int) - f))).toNat
theorem n9_le {len f : Nat} (h : f ≤ len) (keep : Int) : f ≤ n9 len f keep ∧ n9 len f keep ≤ len := by unfold n9; omega
theorem n9_int (len f : Nat) (keep : Int) : ((n9 len f keep : Nat) : Int) = f + max 0 (min keep ((len : Int) - f)) := by unfold n9; omega
/-- One bit inverted: which byte, which bit. -/
def j9 (n f : Nat) (flip : Int) : Nat := f + (flip % (8 * ((n - f : Nat) : Int))).toNat / 8
def m9 (n f : Nat) (flip : Int) : Nat := 7 - (flip % (8 * ((n - f : Nat) : Int))).toNat % 8
def x9 (a : List Int) (f n : Nat) (flip : Int) : List Int :=
  if 0 ≤ flip ∧ f < n then (a.take n).set (j9 n f flip) (bitB ((a.take n).getD (j9 n f flip) 0) (m9 n f flip)) else a.take n
theorem j9_lt {n f : Nat} (h : f < n) (flip : Int) : f ≤ j9 n f flip ∧ j9 n f flip < n ∧ m9 n f flip < 8 := by
  have h1 := Int.emod_nonneg flip (show (8 * ((n - f : Nat) : Int)) ≠ 0 by omega)
  have h2 := Int.emod_lt_of_pos flip (show 0 < (8 * ((n - f : Nat) : Int)) by omega)
  unfold j9 m9
  omega
theorem x9_len {a : List Int} {f n : Nat} (hn : n ≤ a.length) (flip : Int) : (x9 a f n flip).length = n := by
  unfold x9
  split
  · rw [List.length_set, List.length_take]; omega
  · rw [List.length_take]; omega
theorem keys9 (f : Fl) : keysS [((9 : Int), f)] = [9] := by unfold keysS; simp
theorem crash9 {room : Int} {a : List Int} {f : Nat} (hf : f ≤ a.length) (keep flip : Int) :
    crashD (dsk9 room a f) [keep] flip = dsk9 room (x9 a f (n9 a.length f keep) flip) ((n9 a.length f keep : Nat) : Int) := by
  obtain ⟨hn1, hn2⟩ := n9_le hf keep
  generalize hn : n9 a.length f keep = n at hn1 hn2 ⊢
  by_cases ha : a = []
  · subst ha
    have hn0 : n = 0 := by simp at hn2; exact hn2
    have hf0 : f = 0 := by simp at hf; exact hf
    subst hn0 hf0
    unfold crashD
    have ek : keysS (dsk9 room [] ((0 : Nat) : Int)).fs = [] := by show keysS [] = []; simp [keysS]
    rw [ek]
    show (⟨(flipD [] [] flip).map (fun p => (p.1, hardF p.2)), room, false, false, 0⟩ : Dsk) = _
    have e : x9 [] 0 0 flip = [] := by unfold x9; rw [if_neg (by omega)]; rfl
    have e2 : flipD [] [] flip = [] := by unfold flipD; rw [if_neg (by simp)]
    rw [e, e2]
    rfl
  · have hfs : (dsk9 room a f).fs = [(9, ⟨a, (f : Int)⟩)] := by show fs9 a f = _; unfold fs9; rw [if_neg ha]
    have hcut : cutN [keep] [9] [((9 : Int), (⟨a, (f : Int)⟩ : Fl))] 1 = fs9 (a.take n) f := by
      show Disk.cut1 [keep] 0 9 [((9 : Int), (⟨a, (f : Int)⟩ : Fl))] = _
      unfold Disk.cut1
      have e1 : fileAt [((9 : Int), (⟨a, (f : Int)⟩ : Fl))] 9 = ⟨a, (f : Int)⟩ := rfl
      rw [e1]
      have e2 : cutF ⟨a, (f : Int)⟩ (kI [keep] 0 (((⟨a, (f : Int)⟩ : Fl).b.length : Int) - (⟨a, (f : Int)⟩ : Fl).dur)) = ⟨a.take n, (f : Int)⟩ := by
        unfold cutF kI
        simp only
        rw [if_pos (by simp)]
        show (⟨a.take ((f : Int) + max 0 (min keep ((a.length : Int) - f))).toNat, (f : Int)⟩ : Fl) = _
        rw [← n9_int, hn, Int.toNat_natCast]
      rw [e2]
      have e3 : [((9 : Int), (⟨a, (f : Int)⟩ : Fl))] = fs9 a f := by unfold fs9; rw [if_neg ha]
      rw [e3, fs9_set]
    have hb : (a.take n) = [] → (f : Int) = 0 := fun e => by
      have := congrArg List.length e
      rw [List.length_take] at this
      have h1 : a.length ≠ 0 := fun e => ha (List.eq_nil_of_length_eq_zero e)
      simp only [List.length_nil] at this
      omega
    have hloose : looseL (fs9 (a.take n) f) [9] = (List.range' f (n - f)).map fun j => ((9 : Int), j) := by
      unfold looseL loose1
      rw [List.flatMap_cons, fs9_at _ _ hb, List.flatMap_nil, List.append_nil]
      simp only [Int.toNat_natCast]
      rw [List.length_take, show min n a.length = n by omega]
    have hfl : flipD (fs9 (a.take n) f) ((List.range' f (n - f)).map fun j => ((9 : Int), j)) flip = fs9 (x9 a f n flip) f := by
      unfold flipD x9
      rw [List.length_map, List.length_range']
      by_cases hc : 0 ≤ flip ∧ f < n
      · rw [if_pos ⟨hc.1, by omega⟩, if_pos hc]
        obtain ⟨q1, q2, q3⟩ := j9_lt hc.2 flip
        have hj : ((List.range' f (n - f)).map fun j => ((9 : Int), j)).getD ((flip % (8 * ((n - f : Nat) : Int))).toNat / 8) (0, 0) = (9, j9 n f flip) := by
          rw [List.getD_eq_getElem?_getD, List.getElem?_map]
          unfold j9 at q2 ⊢
          generalize (flip % (8 * ((n - f : Nat) : Int))).toNat / 8 = q at q2 ⊢
          rw [List.getElem?_range' (by omega)]
          simp
        rw [hj]
        show flipF (fs9 (a.take n) f) 9 (j9 n f flip) (m9 n f flip) = _
        have hne : a.take n ≠ [] := fun e => by
          have := congrArg List.length e
          rw [List.length_take] at this
          simp only [List.length_nil] at this
          omega
        unfold flipF fs9
        rw [if_neg hne, if_neg (fun e => hne (by have := congrArg List.length e; rw [List.length_set] at this; exact List.eq_nil_of_length_eq_zero this))]
        rfl
      · rw [if_neg (by omega), if_neg hc]
    unfold crashD
    rw [hfs, keys9]
    show (⟨(flipD (cutN [keep] [9] [((9 : Int), (⟨a, (f : Int)⟩ : Fl))] 1) (looseL (cutN [keep] [9] [((9 : Int), (⟨a, (f : Int)⟩ : Fl))] 1) [9]) flip).map (fun p => (p.1, hardF p.2)), room, false, false, 0⟩ : Dsk) = _
    rw [hcut, hloose, hfl, fs9_hard, x9_len hn2]
    rfl

/-- The bits of a byte that are set. -/
def popF : Nat → Nat → Nat
  | 0, _ => 0
  | f + 1, k => k % 2 + popF f (k / 2)
theorem popF_zero : ∀ f, popF f 0 = 0
  | 0 => rfl
  | f + 1 => by unfold popF; rw [show 0 / 2 = 0 from rfl, popF_zero f]
theorem popF_step {f q : Nat} (hq : 0 < q) (h : q < 2 ^ f) : ∃ g, f = g + 1 ∧ popF f q = q % 2 + popF g (q / 2) ∧ q / 2 < 2 ^ g := by
  cases f with
  | zero => simp at h; omega
  | succ g => exact ⟨g, rfl, rfl, by rw [Nat.pow_succ] at h; omega⟩
/-- How many bits of two bytes differ. -/
def dif9 (u v : Int) : Nat := popF 8 (bits .xor .u8 u v).toNat
theorem dif9_same (u : Int) (h : 0 ≤ u ∧ u ≤ 255) : dif9 u u = 0 := by
  obtain ⟨a, rfl⟩ := Int.eq_ofNat_of_zero_le h.1
  have : ∀ a : Fin 256, dif9 ((a.val : Nat) : Int) ((a.val : Nat) : Int) = 0 := by decide +kernel
  exact this ⟨a, by omega⟩
theorem dif9_bit (u : Int) (h : 0 ≤ u ∧ u ≤ 255) (m : Nat) (hm : m < 8) : dif9 (bitB u m) u = 1 := by
  obtain ⟨a, rfl⟩ := Int.eq_ofNat_of_zero_le h.1
  have : ∀ a : Fin 256, ∀ k : Fin 8, dif9 (bitB ((a.val : Nat) : Int) k.val) ((a.val : Nat) : Int) = 1 := by unfold bitB; decide +kernel
  exact this ⟨a, by omega⟩ ⟨m, hm⟩
theorem xor8_range (u v : Int) (hu : 0 ≤ u ∧ u ≤ 255) (hv : 0 ≤ v ∧ v ≤ 255) : 0 ≤ bits .xor .u8 u v ∧ bits .xor .u8 u v ≤ 255 := by
  obtain ⟨a, rfl⟩ := Int.eq_ofNat_of_zero_le hu.1
  obtain ⟨b, rfl⟩ := Int.eq_ofNat_of_zero_le hv.1
  have : ∀ a b : Fin 256, 0 ≤ bits .xor .u8 ((a.val : Nat) : Int) ((b.val : Nat) : Int) ∧ bits .xor .u8 ((a.val : Nat) : Int) ((b.val : Nat) : Int) ≤ 255 := by decide +kernel
  exact this ⟨a, by omega⟩ ⟨b, by omega⟩
def difN (x a : List Int) : Nat → Nat
  | 0 => 0
  | i + 1 => difN x a i + dif9 (x.getD i 0) (a.getD i 0)
theorem difN_le (x a : List Int) : ∀ i, (∀ u v, dif9 u v ≤ 8) → difN x a i ≤ 8 * i
  | 0, _ => Nat.le_refl _
  | i + 1, h => by have := difN_le x a i h; have := h (x.getD i 0) (a.getD i 0); unfold difN; omega
theorem popF_le : ∀ f q, popF f q ≤ f
  | 0, _ => Nat.le_refl _
  | f + 1, q => by have := popF_le f (q / 2); unfold popF; omega
theorem dif9_le (u v : Int) : dif9 u v ≤ 8 := popF_le 8 _
theorem mem_getD {a : List Int} (hb : ∀ x ∈ a, 0 ≤ x ∧ x ≤ 255) (i : Nat) : 0 ≤ a.getD i 0 ∧ a.getD i 0 ≤ 255 := by
  rw [List.getD_eq_getElem?_getD]
  by_cases h : i < a.length
  · rw [List.getElem?_eq_getElem h]; exact hb _ (List.getElem_mem h)
  · rw [List.getElem?_eq_none (by omega)]; decide
theorem x9_getD {a : List Int} {f n : Nat} (hn : n ≤ a.length) (flip : Int) {i : Nat} (hi : i < n) : (x9 a f n flip).getD i 0 = if (0 ≤ flip ∧ f < n) ∧ i = j9 n f flip then bitB (a.getD i 0) (m9 n f flip) else a.getD i 0 := by
  have ht : (a.take n).getD i 0 = a.getD i 0 := by rw [List.getD_eq_getElem?_getD, List.getD_eq_getElem?_getD, List.getElem?_take, if_pos hi]
  unfold x9
  by_cases hc : 0 ≤ flip ∧ f < n
  · rw [if_pos hc, List.getD_eq_getElem?_getD, List.getElem?_set]
    by_cases hj : j9 n f flip = i
    · rw [if_pos hj, if_pos (by rw [List.length_take]; omega), if_pos ⟨hc, hj.symm⟩, hj, ht]
      rfl
    · rw [if_neg hj, if_neg (fun e => hj e.2.symm), ← List.getD_eq_getElem?_getD, ht]
  · rw [if_neg hc, if_neg (fun e => hc e.1), ht]
theorem dif_count {a : List Int} {f n : Nat} (hn : n ≤ a.length) (hb : ∀ x ∈ a, 0 ≤ x ∧ x ≤ 255) (flip : Int) : ∀ i, i ≤ n →
    difN (x9 a f n flip) a i = if (0 ≤ flip ∧ f < n) ∧ j9 n f flip < i then 1 else 0
  | 0, _ => by rw [if_neg (by omega)]; rfl
  | i + 1, hi => by
    have ih := dif_count (f := f) hn hb flip i (by omega)
    unfold difN
    rw [ih, x9_getD hn flip (by omega : i < n)]
    by_cases hc : 0 ≤ flip ∧ f < n
    · by_cases hj : i = j9 n f flip
      · rw [if_neg (by omega), if_pos ⟨hc, hj⟩, if_pos ⟨hc, by omega⟩, dif9_bit _ (mem_getD hb i) _ (j9_lt hc.2 flip).2.2]
      · rw [if_neg (c := (0 ≤ flip ∧ f < n) ∧ i = j9 n f flip) (fun e => hj e.2), dif9_same _ (mem_getD hb i)]
        by_cases h2 : j9 n f flip < i
        · rw [if_pos ⟨hc, h2⟩, if_pos ⟨hc, by omega⟩]
        · rw [if_neg (fun e => h2 e.2), if_neg (fun e => by have := e.2; omega)]
    · rw [if_neg (fun e => hc e.1), if_neg (fun e => hc e.1), if_neg (fun e => hc e.1), dif9_same _ (mem_getD hb i)]
theorem x9_firm {a : List Int} {f n : Nat} (h : f ≤ n) (hn : n ≤ a.length) (flip : Int) : (x9 a f n flip).take f = a.take f := by
  unfold x9
  split
  · rename_i hc
    rw [List.take_set, List.take_take, show min f n = f by omega, List.set_eq_of_length_le]
    rw [List.length_take]
    have := (j9_lt hc.2 flip).1
    omega
  · rw [List.take_take, show min f n = f by omega]
end Go.Proofs.Ytjnbbmiccbjjbaa.Disk
