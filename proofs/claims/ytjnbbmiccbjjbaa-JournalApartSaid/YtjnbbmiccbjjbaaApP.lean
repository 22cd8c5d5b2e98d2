/- The plain side of JournalApart: a disk whose files are all durable. -/
import Derived.Test.YtjnbbmiccbjjbaaJBun
namespace Go.Proofs.Ytjnbbmiccbjjbaa.Jnl
open Go.RowKit Go.Proofs Go.Proofs.Ytjnbbmiccbjjbaa.Ma Go.Proofs.Ytjnbbmiccbjjbaa.Wire Go.Proofs.Ytjnbbmiccbjjbaa.MapI Go.Proofs.Ytjnbbmiccbjjbaa.Few Go.Proofs.Ytjnbbmiccbjjbaa.Scan Go.Proofs.Ytjnbbmiccbjjbaa.Ref07 Go.Proofs.Ytjnbbmiccbjjbaa.Lives7 Go.Proofs.Ytjnbbmiccbjjbaa.Fr7 Go.Proofs.Ytjnbbmiccbjjbaa.Disk

def firm (a : List Int) : Fl := ⟨a, (a.length : Int)⟩
/-- Each file k is g k, all of it durable; the power is on, and no failure is planned. -/
structure TwoF (g : Int → List Int) (d : Dsk) : Prop where
  off : d.off = false
  armed : d.armed = false
  room : d.room = 5000
  at_ : ∀ k, fileAt d.fs k = firm (g k)
  used : usedL d.fs = (g 3).length + (g 4).length
theorem hard_firm (a : List Int) : hardF (firm a) = firm a := rfl
theorem firm_nil : firm [] = noFl := rfl
theorem TwoF.congr {g h : Int → List Int} {d : Dsk} (t : TwoF g d) (e : ∀ k, g k = h k) : TwoF h d := by
  have : g = h := funext e
  rwa [← this]
theorem TwoF.sync {g : Int → List Int} {d : Dsk} (h : TwoF g d) : (syncD d).1 = 0 ∧ TwoF g (syncD d).2 := by
  unfold syncD stepD
  rw [if_neg (by rw [h.off]; simp), if_pos h.armed, if_pos rfl]
  refine ⟨rfl, h.off, h.armed, h.room, fun k => ?_, ?_⟩
  · simp only
    rw [fileAt_hard, h.at_ k, hard_firm]
  · simp only
    rw [usedL_hard, h.used]
theorem TwoF.read {g : Int → List Int} {d : Dsk} (h : TwoF g d) {k : Int} (hk : 0 ≤ k ∧ k < 64) : readD d k = (g k, 0) := by
  unfold readD
  rw [if_neg (fun e => e hk), if_neg (by rw [h.off]; simp), h.at_ k]
  rfl
theorem TwoF.opens {g : Int → List Int} {d : Dsk} (h : TwoF g d) {k : Int} (hk : 0 ≤ k ∧ k < 64) {xs : List (List Int)} (hg : g k = framesL 0 xs) (hx : ∀ x ∈ xs, x.length ≤ 200) (hn : xs.length ≤ 1000) :
    (openD d k).1 = 0 ∧ (scansL (readD d k).1).map Prod.fst = xs ∧ TwoF g (openD d k).2 := by
  obtain ⟨s1, s2⟩ := scans_frames xs hx hn
  have hs := h.sync
  unfold openD
  rw [h.read hk]
  simp only [if_pos]
  rw [hg, s2, if_neg (Int.lt_irrefl _)]
  exact ⟨hs.1, s1, hs.2⟩
/-- An Append to a log in file k. -/
theorem TwoF.lap {g : Int → List Int} {d : Dsk} (h : TwoF g d) (hok : DOk d) {k : Int} (hk : k = 3 ∨ k = 4) {xs : List (List Int)} (hg : g k = framesL 0 xs) {y : List Int} (hy : y.length ≤ 65536) (hr : (g 3).length + (g 4).length + (frameL (xs.length : Int) y).length ≤ 5000) :
    ∃ d', lapD d k (xs.length : Int) false y = (0, d', (xs.length : Int) + 1, false) ∧ TwoF (fun j => if j = k then framesL 0 (xs ++ [y]) else g j) d' := by
  have hsn : framesL 0 (xs ++ [y]) = framesL 0 xs ++ frameL (xs.length : Int) y := by rw [framesL_snoc, Nat.zero_add]
  have hk64 : 0 ≤ k ∧ k < 64 := by omega
  have ha : appendD d k (frameL (xs.length : Int) y) = (0, { d with fs := setF d.fs k ⟨framesL 0 xs ++ frameL (xs.length : Int) y, ((framesL 0 xs).length : Int)⟩ }) := by
    have hst : stepD { d with fs := setF d.fs k ⟨framesL 0 xs ++ frameL (xs.length : Int) y, ((framesL 0 xs).length : Int)⟩ } = (true, { d with fs := setF d.fs k ⟨framesL 0 xs ++ frameL (xs.length : Int) y, ((framesL 0 xs).length : Int)⟩ }) := by
      unfold stepD
      rw [if_pos (show ({ d with fs := setF d.fs k ⟨framesL 0 xs ++ frameL (xs.length : Int) y, ((framesL 0 xs).length : Int)⟩ } : Dsk).armed = false from h.armed)]
    unfold appendD
    rw [if_neg (fun e => e hk64), if_neg (by rw [h.off]; simp), if_neg (by rw [h.room, h.used]; omega), h.at_ k, hg]
    show (if (stepD { d with fs := setF d.fs k ⟨framesL 0 xs ++ frameL (xs.length : Int) y, ((framesL 0 xs).length : Int)⟩ }).1 = true then (0 : Int) else 24, (stepD { d with fs := setF d.fs k ⟨framesL 0 xs ++ frameL (xs.length : Int) y, ((framesL 0 xs).length : Int)⟩ }).2) = _
    rw [hst]
    rfl
  refine ⟨{ d with fs := (setF d.fs k ⟨framesL 0 xs ++ frameL (xs.length : Int) y, ((framesL 0 xs).length : Int)⟩).map fun p => (p.1, hardF p.2) }, ?_, h.off, h.armed, h.room, fun j => ?_, ?_⟩
  · have hs : syncD { d with fs := setF d.fs k ⟨framesL 0 xs ++ frameL (xs.length : Int) y, ((framesL 0 xs).length : Int)⟩ } = (0, { d with fs := (setF d.fs k ⟨framesL 0 xs ++ frameL (xs.length : Int) y, ((framesL 0 xs).length : Int)⟩).map fun p => (p.1, hardF p.2) }) := by
      unfold syncD stepD
      rw [if_neg (show ¬ d.off = true by rw [h.off]; simp), if_pos (show d.armed = false from h.armed), if_pos rfl]
    unfold lapD
    rw [if_neg (by omega), if_neg (by simp), ha]
    simp only [if_pos]
    rw [hs]
    rfl
  · simp only
    rw [fileAt_hard, fileAt_set]
    by_cases hj : j = k
    · have hp := frameL_pos (xs.length : Int) y
      rw [if_pos hj, if_pos hj, if_neg (show ¬ (framesL 0 xs ++ frameL (xs.length : Int) y).length = 0 by rw [List.length_append]; omega), hsn]
      rfl
    · rw [if_neg hj, if_neg hj, h.at_ j, hard_firm]
  · simp only
    rw [usedL_hard]
    have hu := used_set hok.nodup k (⟨framesL 0 xs ++ frameL (xs.length : Int) y, ((framesL 0 xs).length : Int)⟩ : Fl)
    rw [h.at_ k, h.used] at hu
    have e1 : (firm (g k)).b.length = (framesL 0 xs).length := by rw [hg]; rfl
    have e2 : (⟨framesL 0 xs ++ frameL (xs.length : Int) y, ((framesL 0 xs).length : Int)⟩ : Fl).b.length = (framesL 0 xs).length + (frameL (xs.length : Int) y).length := List.length_append
    have e3 : (framesL 0 (xs ++ [y])).length = (framesL 0 xs).length + (frameL (xs.length : Int) y).length := by rw [hsn, List.length_append]
    rw [e1, e2] at hu
    rcases hk with rfl | rfl
    · rw [if_pos rfl, if_neg (by decide), e3]
      rw [hg] at hu
      omega
    · rw [if_neg (by decide), if_pos rfl, e3]
      rw [hg] at hu
      omega
theorem cut_firm {fs : List (Int × Fl)} (hn : (fs.map Prod.fst).Nodup) {g : Int → List Int} (h : ∀ k, fileAt fs k = firm (g k)) (i : Nat) (n : Int) :
    (∀ k, fileAt (Disk.cut1 [] i n fs) k = firm (g k)) ∧ usedL (Disk.cut1 [] i n fs) = usedL fs ∧ ((Disk.cut1 [] i n fs).map Prod.fst).Nodup := by
  have hk : ∀ l, kI [] i l = 0 := fun l => by unfold kI; rw [if_neg (by simp)]
  have hc : cutF (firm (g n)) 0 = firm (g n) := by
    unfold cutF firm
    simp only
    rw [Int.add_zero, Int.toNat_natCast, List.take_length]
  unfold Disk.cut1
  rw [hk, h n, hc]
  refine ⟨fun k => ?_, ?_, setF_nodup hn _ _⟩
  · rw [fileAt_set]
    by_cases hkn : k = n
    · rw [if_pos hkn, hkn]
      by_cases h0 : (firm (g n)).b.length = 0
      · rw [if_pos h0]
        have : g n = [] := List.eq_nil_of_length_eq_zero h0
        rw [this]
        rfl
      · rw [if_neg h0]
    · rw [if_neg hkn, h k]
  · have hu := used_set hn n (firm (g n))
    rw [h n] at hu
    omega
theorem cutN_firm {fs : List (Int × Fl)} (hn : (fs.map Prod.fst).Nodup) {g : Int → List Int} (h : ∀ k, fileAt fs k = firm (g k)) (ks : List Int) : ∀ i,
    (∀ k, fileAt (Disk.cutN [] ks fs i) k = firm (g k)) ∧ usedL (Disk.cutN [] ks fs i) = usedL fs ∧ ((Disk.cutN [] ks fs i).map Prod.fst).Nodup
  | 0 => ⟨h, rfl, hn⟩
  | i + 1 => by
    obtain ⟨h1, h2, h3⟩ := cutN_firm hn h ks i
    unfold Disk.cutN
    split
    · obtain ⟨c1, c2, c3⟩ := cut_firm h3 h1 i (ks.getD i 0)
      exact ⟨c1, c2.trans h2, c3⟩
    · exact ⟨h1, h2, h3⟩
theorem TwoF.crash {g : Int → List Int} {d : Dsk} (h : TwoF g d) (hok : DOk d) : TwoF g (crashD d [] (-1)) := by
  have hfl : ∀ (fs : List (Int × Fl)) L, flipD fs L (-1) = fs := fun fs L => by unfold flipD; rw [if_neg (by omega)]
  obtain ⟨h1, h2, _⟩ := cutN_firm hok.nodup h.at_ (keysS d.fs) (keysS d.fs).length
  unfold crashD
  rw [hfl]
  refine ⟨rfl, rfl, h.room, fun k => ?_, ?_⟩
  · simp only
    rw [fileAt_hard, h1 k, hard_firm]
  · simp only
    rw [usedL_hard, h2, h.used]
theorem two_new : TwoF (fun _ => []) (newDsk 5000) := ⟨rfl, rfl, rfl, fun _ => rfl, rfl⟩

/-- Up to three bytes are no frame. -/
theorem scan_few {r : List Int} (h : r.length ≤ 3) : scansL r = [] := by
  unfold scansL
  refine scanR_bad _ _ _ _ (fun hp => ?_)
  have h1 := hp.length_le
  have h2 := frame_four ((0 : Nat) : Int) (recL (r.drop 0))
  rw [List.drop_zero] at h1 h2
  omega
def fs4 (r : List Int) (f : Int) : List (Int × Fl) := if r = [] then [] else [(4, ⟨r, f⟩)]
theorem fs4_at3 (r : List Int) (f : Int) : fileAt (fs4 r f) 3 = noFl := by
  unfold fs4
  by_cases h : r = []
  · rw [if_pos h]; rfl
  · rw [if_neg h]; rfl
theorem fs4_at4 (r : List Int) (f : Int) (h0 : r = [] → f = 0) : fileAt (fs4 r f) 4 = ⟨r, f⟩ := by
  unfold fs4
  by_cases h : r = []
  · rw [if_pos h, h0 h, h]; rfl
  · rw [if_neg h]; rfl
theorem fs4_hard (r : List Int) (f : Int) : (fs4 r f).map (fun p => (p.1, hardF p.2)) = fs4 r (r.length : Int) := by
  unfold fs4
  by_cases h : r = []
  · rw [if_pos h, if_pos h]; rfl
  · rw [if_neg h, if_neg h]; rfl
/-- What stands before the logs: file 4 holds up to three bytes, which Open takes away. -/
theorem apart_start {r : List Int} (h : r.length ≤ 3) :
    (appendD (newDsk 5000) 4 r) = (0, ⟨fs4 r 0, 5000, false, false, 0⟩) ∧
    (readD ⟨fs4 r 0, 5000, false, false, 0⟩ 3).1 = [] ∧ openD ⟨fs4 r 0, 5000, false, false, 0⟩ 3 = (0, ⟨fs4 r (r.length : Int), 5000, false, false, 0⟩) ∧
    (scansL (readD ⟨fs4 r (r.length : Int), 5000, false, false, 0⟩ 4).1) = [] ∧ openD ⟨fs4 r (r.length : Int), 5000, false, false, 0⟩ 4 = (0, newDsk 5000) := by
  have hst : ∀ fs, stepD ⟨fs, 5000, false, false, 0⟩ = (true, ⟨fs, 5000, false, false, 0⟩) := fun fs => by unfold stepD; rw [if_pos rfl]
  have hsync : ∀ fs, syncD ⟨fs, 5000, false, false, 0⟩ = (0, ⟨fs.map fun p => (p.1, hardF p.2), 5000, false, false, 0⟩) := fun fs => by
    unfold syncD
    rw [if_neg (by simp), hst, if_pos rfl]
  have hr3 : ∀ f, readD ⟨fs4 r f, 5000, false, false, 0⟩ 3 = ([], 0) := fun f => by
    unfold readD
    rw [if_neg (by omega), if_neg (by simp)]
    simp only
    rw [fs4_at3]
    rfl
  have hr4 : readD ⟨fs4 r (r.length : Int), 5000, false, false, 0⟩ 4 = (r, 0) := by
    unfold readD
    rw [if_neg (by omega), if_neg (by simp)]
    simp only
    rw [fs4_at4 _ _ (fun e => by rw [e]; rfl)]
  refine ⟨?_, by rw [hr3], ?_, by rw [hr4]; exact scan_few h, ?_⟩
  · have e1 : setF ([] : List (Int × Fl)) 4 ⟨r, 0⟩ = fs4 r 0 := by
      unfold setF fs4
      by_cases h0 : r = []
      · subst h0; rfl
      · rw [if_neg (show ¬ (⟨r, 0⟩ : Fl).b.length = 0 from fun e => h0 (List.eq_nil_of_length_eq_zero e)), if_neg h0]; rfl
    unfold appendD
    rw [if_neg (by omega), if_neg (show ¬ (newDsk 5000).off = true by simp [newDsk]), if_neg (show ¬ (newDsk 5000).room - ((usedL (newDsk 5000).fs : Nat) : Int) < (r.length : Int) by show ¬ (5000 : Int) - ((0 : Nat) : Int) < (r.length : Int); omega)]
    show (if (stepD ⟨setF [] 4 ⟨[] ++ r, 0⟩, 5000, false, false, 0⟩).1 = true then (0 : Int) else 24, (stepD ⟨setF [] 4 ⟨[] ++ r, 0⟩, 5000, false, false, 0⟩).2) = _
    rw [List.nil_append, e1, hst]
    rfl
  · unfold openD
    rw [hr3]
    simp only [if_pos]
    rw [scan_few (r := []) (by simp)]
    rw [if_neg (by simp [endL]), hsync, fs4_hard]
  · unfold openD
    rw [hr4]
    simp only [if_pos]
    rw [scan_few h]
    by_cases h0 : r = []
    · subst h0
      rw [if_neg (by simp [endL]), hsync]
      rfl
    · have h1 : 0 < r.length := by
        cases r with
        | nil => exact absurd rfl h0
        | cons a l => simp
      have htr : truncD ⟨fs4 r (r.length : Int), 5000, false, false, 0⟩ 4 (endL []) = (0, ⟨[], 5000, false, false, 0⟩) := by
        have he : endL [] = 0 := rfl
        unfold truncD
        rw [hst, he]
        simp only
        rw [fs4_at4 _ _ (fun e => by rw [e]; rfl)]
        simp only
        rw [if_neg (by omega), if_neg (by simp), if_pos trivial]
        unfold fs4 setF
        rw [if_neg h0]
        rfl
      rw [if_pos (show endL [] < (r.length : Int) by have he : endL [] = 0 := rfl; rw [he]; omega), htr]
      simp only [if_pos]
      rw [hsync]
      rfl
end Go.Proofs.Ytjnbbmiccbjjbaa.Jnl
