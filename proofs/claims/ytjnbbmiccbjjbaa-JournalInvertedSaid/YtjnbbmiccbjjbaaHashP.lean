/- The plain side of DiskHash: one file (number 0), appended to, synced, crashed. -/
import Derived.Test.YtjnbbmiccbjjbaaCrP
import Derived.Test.YtjnbbmiccbjjbaaDetP
namespace Go.Proofs.Ytjnbbmiccbjjbaa.Disk.H
open Go.Proofs.Ytjnbbmiccbjjbaa.Disk  Go.RowKit Go.Proofs Go.Proofs.Ytjnbbmiccbjjbaa.Ma Go.Proofs.Ytjnbbmiccbjjbaa.Wire Go.Proofs.Ytjnbbmiccbjjbaa.MapI

def fs9 (a : List Int) (f : Int) : List (Int × Fl) := if a = [] then [] else [(0, ⟨a, f⟩)]
def dsk9 (room : Int) (a : List Int) (f : Int) : Dsk := ⟨fs9 a f, room, false, false, 0⟩
theorem fs9_at (a : List Int) (f : Int) (h : a = [] → f = 0) : fileAt (fs9 a f) 0 = ⟨a, f⟩ := by
  unfold fs9
  by_cases ha : a = []
  · rw [if_pos ha, ha, h ha]; rfl
  · rw [if_neg ha]; rfl
theorem fs9_used (a : List Int) (f : Int) : usedL (fs9 a f) = a.length := by
  unfold fs9
  by_cases ha : a = []
  · rw [if_pos ha, ha]; rfl
  · rw [if_neg ha]; rfl
theorem fs9_set (a : List Int) (f : Int) (b : List Int) (g : Int) : setF (fs9 a f) 0 ⟨b, g⟩ = fs9 b g := by
  have hput : putL (fs9 a f) 0 (⟨b, g⟩ : Fl) = [(0, ⟨b, g⟩)] := by
    unfold fs9
    by_cases ha : a = []
    · rw [if_pos ha]; rfl
    · rw [if_neg ha]; rfl
  unfold setF
  rw [hput]
  unfold fs9
  by_cases hb : b = []
  · subst hb; rfl
  · rw [if_neg (show ¬ (⟨b, g⟩ : Fl).b.length = 0 from fun e => hb (List.eq_nil_of_length_eq_zero e)), if_neg hb]
theorem fs9_hard (a : List Int) (f : Int) : (fs9 a f).map (fun p => (p.1, hardF p.2)) = fs9 a (a.length : Int) := by
  unfold fs9
  by_cases ha : a = []
  · rw [if_pos ha, if_pos ha]; rfl
  · rw [if_neg ha, if_neg ha]; rfl
theorem new9 (room : Int) : newDsk room = dsk9 room [] 0 := rfl
theorem step9 (room : Int) (a : List Int) (f : Int) : stepD (dsk9 room a f) = (true, dsk9 room a f) := by
  unfold stepD
  rw [if_pos (show (dsk9 room a f).armed = false from rfl)]
theorem append9 {room : Int} {a bs : List Int} {f : Int} (h : a = [] → f = 0) (hl : ((a.length + bs.length : Nat) : Int) ≤ room) : appendD (dsk9 room a f) 0 bs = (0, dsk9 room (a ++ bs) f) := by
  unfold appendD
  rw [if_neg (by omega), if_neg (show ¬ (dsk9 room a f).off = true from fun e => by cases e)]
  rw [if_neg (show ¬ (dsk9 room a f).room - ((usedL (dsk9 room a f).fs : Nat) : Int) < _ by show ¬ room - ((usedL (fs9 a f) : Nat) : Int) < _; rw [fs9_used]; omega)]
  have e1 : fileAt (dsk9 room a f).fs 0 = ⟨a, f⟩ := fs9_at a f h
  rw [e1]
  have e2 : ({ dsk9 room a f with fs := setF (dsk9 room a f).fs 0 ⟨a ++ bs, f⟩ } : Dsk) = dsk9 room (a ++ bs) f := by
    show (⟨setF (fs9 a f) 0 ⟨a ++ bs, f⟩, room, false, false, 0⟩ : Dsk) = _
    rw [fs9_set]
    rfl
  show (if (stepD ({ dsk9 room a f with fs := setF (dsk9 room a f).fs 0 ⟨a ++ bs, f⟩ } : Dsk)).1 = true then (0 : Int) else 24, (stepD ({ dsk9 room a f with fs := setF (dsk9 room a f).fs 0 ⟨a ++ bs, f⟩ } : Dsk)).2) = _
  rw [e2, step9]
  rfl
theorem sync9 (room : Int) (a : List Int) (f : Int) : syncD (dsk9 room a f) = (0, dsk9 room a (a.length : Int)) := by
  unfold syncD
  rw [if_neg (show ¬ (dsk9 room a f).off = true from fun e => by cases e), step9, if_pos rfl]
  show ((0 : Int), (⟨(fs9 a f).map fun p => (p.1, hardF p.2), room, false, false, 0⟩ : Dsk)) = _
  rw [fs9_hard]
  rfl
theorem read9 (room : Int) (a : List Int) (f : Int) : readD (dsk9 room a f) 0 = (a, 0) := by
  unfold readD
  rw [if_neg (by omega), if_neg (show ¬ (dsk9 room a f).off = true from fun e => by cases e)]
  have : (fileAt (fs9 a f) 0).b = a := by
    unfold fs9
    by_cases ha : a = []
    · rw [if_pos ha, ha]; rfl
    · rw [if_neg ha]; rfl
  show ((fileAt (fs9 a f) 0).b, (0 : Int)) = _
  rw [this]

/-- How many bytes are left. -/
def n9 (len f : Nat) (keep : Int) : Nat := f + (max 0 (min keep ((len : Int) - f))).toNat
theorem n9_le {len f : Nat} (h : f ≤ len) (keep : Int) : f ≤ n9 len f keep ∧ n9 len f keep ≤ len := by unfold n9; omega
theorem n9_int (len f : Nat) (keep : Int) : ((n9 len f keep : Nat) : Int) = f + max 0 (min keep ((len : Int) - f)) := by unfold n9; omega
/-- One bit inverted: which byte, which bit. -/
def j9 (n f : Nat) (flip : Int) : Nat := f + (flip % (8 * ((n - f : Nat) : Int))).toNat / 8
def m9 (n f : Nat) (flip : Int) : Nat := 7 - (flip % (8 * ((n - f : Nat) : Int))).toNat % 8
def x9 (a : List Int) (f n : Nat) (flip : Int) : List Int :=
  if 0 ≤ flip ∧ f < n then (a.take n).set (j9 n f flip) (bitB ((a.take n).getD (j9 n f flip) 0) (m9 n f flip)) else a.take n
theorem j9_lt {n f : Nat} (h : f < n) (flip : Int) : f ≤ j9 n f flip ∧ j9 n f flip < n ∧ m9 n f flip < 8 := by
  have h1 := Int.emod_nonneg flip (show (8 * ((n - f : Nat) : Int)) ≠ 0 by omega)
  have h2 := Int.emod_lt_of_pos flip (show 0 < (8 * ((n - f : Nat) : Int)) by omega)
  unfold j9 m9
  omega
theorem x9_len {a : List Int} {f n : Nat} (hn : n ≤ a.length) (flip : Int) : (x9 a f n flip).length = n := by
  unfold x9
  split
  · rw [List.length_set, List.length_take]; omega
  · rw [List.length_take]; omega
theorem keys9 (f : Fl) : keysS [((0 : Int), f)] = [0] := by unfold keysS; simp
theorem crash9 {room : Int} {a : List Int} {f : Nat} (hf : f ≤ a.length) (keep flip : Int) :
    crashD (dsk9 room a f) [keep] flip = dsk9 room (x9 a f (n9 a.length f keep) flip) ((n9 a.length f keep : Nat) : Int) := by
  obtain ⟨hn1, hn2⟩ := n9_le hf keep
  generalize hn : n9 a.length f keep = n at hn1 hn2 ⊢
  by_cases ha : a = []
  · subst ha
    have hn0 : n = 0 := by simp at hn2; exact hn2
    have hf0 : f = 0 := by simp at hf; exact hf
    subst hn0 hf0
    unfold crashD
    have ek : keysS (dsk9 room [] ((0 : Nat) : Int)).fs = [] := by show keysS [] = []; simp [keysS]
    rw [ek]
    show (⟨(flipD [] [] flip).map (fun p => (p.1, hardF p.2)), room, false, false, 0⟩ : Dsk) = _
    have e : x9 [] 0 0 flip = [] := by unfold x9; rw [if_neg (by omega)]; rfl
    have e2 : flipD [] [] flip = [] := by unfold flipD; rw [if_neg (by simp)]
    rw [e, e2]
    rfl
  · have hfs : (dsk9 room a f).fs = [(0, ⟨a, (f : Int)⟩)] := by show fs9 a f = _; unfold fs9; rw [if_neg ha]
    have hcut : cutN [keep] [0] [((0 : Int), (⟨a, (f : Int)⟩ : Fl))] 1 = fs9 (a.take n) f := by
      show Disk.cut1 [keep] 0 0 [((0 : Int), (⟨a, (f : Int)⟩ : Fl))] = _
      unfold Disk.cut1
      have e1 : fileAt [((0 : Int), (⟨a, (f : Int)⟩ : Fl))] 0 = ⟨a, (f : Int)⟩ := rfl
      rw [e1]
      have e2 : cutF ⟨a, (f : Int)⟩ (kI [keep] 0 (((⟨a, (f : Int)⟩ : Fl).b.length : Int) - (⟨a, (f : Int)⟩ : Fl).dur)) = ⟨a.take n, (f : Int)⟩ := by
        unfold cutF kI
        simp only
        rw [if_pos (by simp)]
        show (⟨a.take ((f : Int) + max 0 (min keep ((a.length : Int) - f))).toNat, (f : Int)⟩ : Fl) = _
        rw [← n9_int, hn, Int.toNat_natCast]
      rw [e2]
      have e3 : [((0 : Int), (⟨a, (f : Int)⟩ : Fl))] = fs9 a f := by unfold fs9; rw [if_neg ha]
      rw [e3, fs9_set]
    have hb : (a.take n) = [] → (f : Int) = 0 := fun e => by
      have := congrArg List.length e
      rw [List.length_take] at this
      have h1 : a.length ≠ 0 := fun e => ha (List.eq_nil_of_length_eq_zero e)
      simp only [List.length_nil] at this
      omega
    have hloose : looseL (fs9 (a.take n) f) [0] = (List.range' f (n - f)).map fun j => ((0 : Int), j) := by
      unfold looseL loose1
      rw [List.flatMap_cons, fs9_at _ _ hb, List.flatMap_nil, List.append_nil]
      simp only [Int.toNat_natCast]
      rw [List.length_take, show min n a.length = n by omega]
    have hfl : flipD (fs9 (a.take n) f) ((List.range' f (n - f)).map fun j => ((0 : Int), j)) flip = fs9 (x9 a f n flip) f := by
      unfold flipD x9
      rw [List.length_map, List.length_range']
      by_cases hc : 0 ≤ flip ∧ f < n
      · rw [if_pos ⟨hc.1, by omega⟩, if_pos hc]
        obtain ⟨q1, q2, q3⟩ := j9_lt hc.2 flip
        have hj : ((List.range' f (n - f)).map fun j => ((0 : Int), j)).getD ((flip % (8 * ((n - f : Nat) : Int))).toNat / 8) (0, 0) = (0, j9 n f flip) := by
          rw [List.getD_eq_getElem?_getD, List.getElem?_map]
          unfold j9 at q2 ⊢
          generalize (flip % (8 * ((n - f : Nat) : Int))).toNat / 8 = q at q2 ⊢
          rw [List.getElem?_range' (by omega)]
          simp
        rw [hj]
        show flipF (fs9 (a.take n) f) 0 (j9 n f flip) (m9 n f flip) = _
        have hne : a.take n ≠ [] := fun e => by
          have := congrArg List.length e
          rw [List.length_take] at this
          simp only [List.length_nil] at this
          omega
        unfold flipF fs9
        rw [if_neg hne, if_neg (fun e => hne (by have := congrArg List.length e; rw [List.length_set] at this; exact List.eq_nil_of_length_eq_zero this))]
        rfl
      · rw [if_neg (by omega), if_neg hc]
    unfold crashD
    rw [hfs, keys9]
    show (⟨(flipD (cutN [keep] [0] [((0 : Int), (⟨a, (f : Int)⟩ : Fl))] 1) (looseL (cutN [keep] [0] [((0 : Int), (⟨a, (f : Int)⟩ : Fl))] 1) [0]) flip).map (fun p => (p.1, hardF p.2)), room, false, false, 0⟩ : Dsk) = _
    rw [hcut, hloose, hfl, fs9_hard, x9_len hn2]
    rfl

theorem bitB_ne (u : Int) (h : 0 ≤ u ∧ u ≤ 255) (m : Nat) (hm : m < 8) : bitB u m ≠ u := by
  obtain ⟨a, rfl⟩ := Int.eq_ofNat_of_zero_le h.1
  have : ∀ a : Fin 256, ∀ k : Fin 8, bitB ((a.val : Nat) : Int) k.val ≠ ((a.val : Nat) : Int) := by unfold bitB; decide +kernel
  exact this ⟨a, by omega⟩ ⟨m, hm⟩
def sF : ByteArray := { data := #[102] }
/-- A crash of up to 8 bytes, none of them durable, all of them kept: the hash tells whether a bit is inverted. -/
theorem hash_loose {own : List Int} (hl : own.length ≤ 8) (h0 : 0 < own.length) (hb : ∀ x ∈ own, 0 ≤ x ∧ x ≤ 255) (flip : Int) : (bytesH sF (x9 own 0 (n9 own.length 0 8) flip) == bytesH sF own) = decide (flip < 0) := by
  have hn : n9 own.length 0 8 = own.length := by unfold n9; omega
  rw [hn]
  have ht : own.take own.length = own := List.take_length
  by_cases hf : flip < 0
  · have e : x9 own 0 own.length flip = own := by unfold x9; rw [if_neg (by omega), ht]
    rw [e, decide_eq_true hf]
    simp
  · rw [decide_eq_false hf]
    obtain ⟨_, j2, j3⟩ := j9_lt h0 flip
    have e : x9 own 0 own.length flip = own.set (j9 own.length 0 flip) (bitB (own.getD (j9 own.length 0 flip) 0) (m9 own.length 0 flip)) := by
      unfold x9
      rw [if_pos ⟨by omega, h0⟩, ht]
    rw [e]
    have eg : own.getD (j9 own.length 0 flip) 0 = own[j9 own.length 0 flip] := by simp [List.getD_eq_getElem?_getD, j2]
    rw [eg]
    have hr := hb _ (List.getElem_mem j2)
    have hne := bytesN_ne sF own (j9 own.length 0 flip) (bitB own[j9 own.length 0 flip] (m9 own.length 0 flip)) j2 (by omega) hb (bitB_range _ hr _ j3) (bitB_ne _ hr _ j3)
    rw [bytesN_eq, bytesN_eq]
    simp only [beq_eq_false_iff_ne, ne_eq]
    omega
theorem hash_firm {own : List Int} (flip : Int) : x9 own own.length (n9 own.length own.length 8) flip = own := by
  have hn : n9 own.length own.length 8 = own.length := by unfold n9; omega
  rw [hn]
  unfold x9
  rw [if_neg (by omega), List.take_length]
end Go.Proofs.Ytjnbbmiccbjjbaa.Disk.H
