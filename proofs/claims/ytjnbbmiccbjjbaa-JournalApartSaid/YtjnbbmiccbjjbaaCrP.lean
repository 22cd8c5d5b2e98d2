/- The plain crash of a disk. -/
import Derived.Test.YtjnbbmiccbjjbaaDkP
namespace Go.Proofs.Ytjnbbmiccbjjbaa.Disk
open Go.RowKit Go.Proofs Go.Proofs.Ytjnbbmiccbjjbaa.Ma Go.Proofs.Ytjnbbmiccbjjbaa.Wire Go.Proofs.Ytjnbbmiccbjjbaa.MapI

/-- The files' numbers in order. -/
def keysS (fs : List (Int × Fl)) : List Int := (fs.map Prod.fst).mergeSort (fun x y => decide (x ≤ y))
/-- How many loose bytes of the i-th file are kept. -/
def kI (keep : List Int) (i : Nat) (loose : Int) : Int := if i < keep.length then max 0 (min (keep.getD i 0) loose) else 0
def cutF (f : Fl) (k : Int) : Fl := ⟨f.b.take (f.dur + k).toNat, f.dur⟩
def cut1 (keep : List Int) (i : Nat) (n : Int) (fs : List (Int × Fl)) : List (Int × Fl) := setF fs n (cutF (fileAt fs n) (kI keep i ((fileAt fs n).b.length - (fileAt fs n).dur)))
/-- The files when the first i numbers are done. -/
def cutN (keep ks : List Int) (fs : List (Int × Fl)) : Nat → List (Int × Fl)
  | 0 => fs
  | i + 1 => if i < ks.length then cut1 keep i (ks.getD i 0) (cutN keep ks fs i) else cutN keep ks fs i
/-- The loose bytes of a file, of some files. -/
def loose1 (fs : List (Int × Fl)) (n : Int) : List (Int × Nat) := (List.range' (fileAt fs n).dur.toNat ((fileAt fs n).b.length - (fileAt fs n).dur.toNat)).map fun j => (n, j)
def looseL (fs : List (Int × Fl)) (ks : List Int) : List (Int × Nat) := ks.flatMap (loose1 fs)
/-- One bit of one file's byte inverted. -/
def bitB (x : Int) (m : Nat) : Int := bits .xor .u8 x ((2 : Int) ^ m % 256)
def flipF (fs : List (Int × Fl)) (n : Int) (j m : Nat) : List (Int × Fl) := fs.map fun p => if p.1 = n then (p.1, ⟨p.2.b.set j (bitB (p.2.b.getD j 0) m), p.2.dur⟩) else p
/-- The bit that a crash inverts. -/
def flipD (fs : List (Int × Fl)) (L : List (Int × Nat)) (flip : Int) : List (Int × Fl) :=
  if 0 ≤ flip ∧ 0 < L.length then flipF fs (L.getD ((flip % (8 * L.length)).toNat / 8) (0, 0)).1 (L.getD ((flip % (8 * L.length)).toNat / 8) (0, 0)).2 (7 - (flip % (8 * L.length)).toNat % 8) else fs
def crashD (d : Dsk) (keep : List Int) (flip : Int) : Dsk :=
  { d with fs := (flipD (cutN keep (keysS d.fs) d.fs (keysS d.fs).length) (looseL (cutN keep (keysS d.fs) d.fs (keysS d.fs).length) (keysS d.fs)) flip).map fun p => (p.1, hardF p.2), off := false, armed := false }

theorem kI_range (keep : List Int) (i : Nat) (l : Int) (hl : 0 ≤ l) : 0 ≤ kI keep i l ∧ kI keep i l ≤ l := by
  unfold kI
  split
  · omega
  · omega
theorem keysS_mem (fs : List (Int × Fl)) (n : Int) : n ∈ keysS fs ↔ n ∈ fs.map Prod.fst := (List.mergeSort_perm _ _).mem_iff
theorem keysS_len (fs : List (Int × Fl)) : (keysS fs).length = fs.length := by unfold keysS; rw [List.length_mergeSort, List.length_map]
theorem keysS_nodup {fs : List (Int × Fl)} (h : (fs.map Prod.fst).Nodup) : (keysS fs).Nodup := (List.mergeSort_perm _ _).nodup_iff.2 h
theorem DOk.cut1 {d : Dsk} (h : DOk d) (keep : List Int) (i : Nat) {n : Int} (hn : 0 ≤ n ∧ n < 64) : DOk { d with fs := Disk.cut1 keep i n d.fs } := by
  have ha := h.at n
  have hk := kI_range keep i ((fileAt d.fs n).b.length - (fileAt d.fs n).dur) (by omega)
  have hl : ((fileAt d.fs n).b.take ((fileAt d.fs n).dur + kI keep i ((fileAt d.fs n).b.length - (fileAt d.fs n).dur)).toNat).length ≤ (fileAt d.fs n).b.length := List.length_take_le' _ _
  refine h.set hn ?_ (fun x hx => ha.2 x (List.mem_of_mem_take hx)) ?_
  · show 0 ≤ (fileAt d.fs n).dur ∧ (fileAt d.fs n).dur ≤ (((fileAt d.fs n).b.take _).length : Int)
    rw [List.length_take]
    omega
  · have := h.used
    show (usedL d.fs : Int) + (((fileAt d.fs n).b.take _).length : Int) ≤ _
    omega
theorem DOk.cutN {d : Dsk} (h : DOk d) (keep ks : List Int) (hk : ∀ n ∈ ks, 0 ≤ n ∧ n < 64) : ∀ i, DOk { d with fs := Disk.cutN keep ks d.fs i }
  | 0 => h
  | i + 1 => by
    have ih := h.cutN keep ks hk i
    unfold Disk.cutN
    split
    · rename_i hi
      have hm : ks.getD i 0 ∈ ks := by rw [List.getD_eq_getElem?_getD, List.getElem?_eq_getElem hi]; exact List.getElem_mem hi
      exact ih.cut1 keep i (hk _ hm)
    · exact ih
theorem keysS_range {d : Dsk} (h : DOk d) : ∀ n ∈ keysS d.fs, 0 ≤ n ∧ n < 64 := by
  intro n hn
  rw [keysS_mem] at hn
  obtain ⟨p, hp, rfl⟩ := List.mem_map.1 hn
  exact (h.file p hp).1
theorem fileAt_cut1 (keep : List Int) (i : Nat) (n : Int) (fs : List (Int × Fl)) (j : Int) (hj : j ≠ n) : fileAt (Disk.cut1 keep i n fs) j = fileAt fs j := by
  unfold Disk.cut1
  rw [fileAt_set, if_neg hj]
theorem loose1_congr {fs gs : List (Int × Fl)} {n : Int} (h : fileAt fs n = fileAt gs n) : loose1 fs n = loose1 gs n := by unfold loose1; rw [h]
theorem looseL_congr {fs gs : List (Int × Fl)} : ∀ {ks : List Int}, (∀ n ∈ ks, fileAt fs n = fileAt gs n) → looseL fs ks = looseL gs ks
  | [], _ => rfl
  | n :: ks, h => by
    have ih := looseL_congr (ks := ks) (fun m hm => h m (List.mem_cons_of_mem _ hm))
    unfold looseL at ih ⊢
    rw [List.flatMap_cons, List.flatMap_cons, ih, loose1_congr (h n List.mem_cons_self)]
theorem cutN_succ {keep ks : List Int} {fs : List (Int × Fl)} {i : Nat} (h : i < ks.length) : cutN keep ks fs (i + 1) = Disk.cut1 keep i ks[i] (cutN keep ks fs i) := by
  rw [Disk.cutN, if_pos h]
  congr 1
  simp [h]
/-- One more file's loose bytes. -/
theorem looseL_succ {keep ks : List Int} (hk : ks.Nodup) {fs : List (Int × Fl)} {i : Nat} (h : i < ks.length) :
    looseL (cutN keep ks fs (i + 1)) (ks.take (i + 1)) = looseL (cutN keep ks fs i) (ks.take i) ++ loose1 (cutN keep ks fs (i + 1)) ks[i] := by
  rw [List.take_succ_eq_append_getElem h]
  have e : looseL (cutN keep ks fs (i + 1)) (ks.take i ++ [ks[i]]) = looseL (cutN keep ks fs (i + 1)) (ks.take i) ++ loose1 (cutN keep ks fs (i + 1)) ks[i] := by
    unfold looseL
    rw [List.flatMap_append]
    simp
  rw [e]
  congr 1
  refine looseL_congr (fun n hn => ?_)
  rw [cutN_succ h]
  refine fileAt_cut1 _ _ _ _ _ (fun e => ?_)
  obtain ⟨j, hj, e2⟩ := List.mem_iff_getElem.1 hn
  rw [List.length_take] at hj
  rw [List.getElem_take] at e2
  exact List.pairwise_iff_getElem.1 hk j i (by omega) h (by omega) (by rw [e2, e])
theorem loose1_cut (keep : List Int) (i : Nat) (n : Int) (fs : List (Int × Fl)) (hd : 0 ≤ (fileAt fs n).dur ∧ (fileAt fs n).dur ≤ (fileAt fs n).b.length) :
    loose1 (Disk.cut1 keep i n fs) n = (List.range' (fileAt fs n).dur.toNat ((cutF (fileAt fs n) (kI keep i ((fileAt fs n).b.length - (fileAt fs n).dur))).b.length - (fileAt fs n).dur.toNat)).map fun j => (n, j) := by
  have hk := kI_range keep i ((fileAt fs n).b.length - (fileAt fs n).dur) (by omega)
  unfold loose1 Disk.cut1
  rw [fileAt_set, if_pos rfl]
  by_cases h : (cutF (fileAt fs n) (kI keep i ((fileAt fs n).b.length - (fileAt fs n).dur))).b.length = 0
  · rw [if_pos h, h]
    simp [noFl]
  · rw [if_neg h]
    rfl
/-- How the loose bytes of one file come one by one. -/
theorem loose1_snoc (n : Int) (a l : Nat) (h : a ≤ l) : (List.range' a (l + 1 - a)).map (fun j => (n, j)) = (List.range' a (l - a)).map (fun j => (n, j)) ++ [(n, l)] := by
  rw [show l + 1 - a = (l - a) + 1 by omega, List.range'_1_concat, List.map_append]
  simp
  omega
theorem cutF_len {f : Fl} {k : Int} (hk : 0 ≤ k) (hd : 0 ≤ f.dur) (h : f.dur + k ≤ f.b.length) : ((cutF f k).b.length : Int) = f.dur + k := by
  unfold cutF
  simp only
  rw [List.length_take]
  omega
theorem flip_range {L : List (Int × Nat)} (h : 0 < L.length) (flip : Int) : (flip % (8 * L.length)).toNat / 8 < L.length ∧ 0 ≤ flip % (8 * L.length) ∧ flip % (8 * L.length) < 8 * L.length := by
  have h1 := Int.emod_nonneg flip (show (8 * (L.length : Int)) ≠ 0 by omega)
  have h2 := Int.emod_lt_of_pos flip (show 0 < (8 * (L.length : Int)) by omega)
  omega
theorem looseL_mem {fs : List (Int × Fl)} {ks : List Int} {p : Int × Nat} (h : p ∈ looseL fs ks) : p.1 ∈ ks ∧ (fileAt fs p.1).dur.toNat ≤ p.2 ∧ p.2 < (fileAt fs p.1).b.length := by
  unfold looseL loose1 at h
  obtain ⟨n, hn, hp⟩ := List.mem_flatMap.1 h
  obtain ⟨j, hj, rfl⟩ := List.mem_map.1 hp
  rw [List.mem_range'_1] at hj
  exact ⟨hn, hj.1, by simp only; omega⟩
theorem files_sum : ∀ (ks : List Int) (fs : List (Int × Fl)), ks.Nodup → (fs.map Prod.fst).Nodup → (ks.map fun n => (fileAt fs n).b.length).sum ≤ usedL fs
  | [], _, _, _ => Nat.zero_le _
  | n :: ks, fs, hk, hf => by
    rw [List.nodup_cons] at hk
    have ih := files_sum ks (delL fs n) hk.2 (delL_nodup hf n)
    have h1 := used_del n hf
    have e : (ks.map fun m => (fileAt (delL fs n) m).b.length) = ks.map fun m => (fileAt fs m).b.length := by
      refine List.map_congr_left (fun m hm => ?_)
      rw [fileAt_del, if_neg (fun e => hk.1 (by rw [← e]; exact hm))]
    rw [e] at ih
    rw [List.map_cons, List.sum_cons]
    omega
theorem looseL_len : ∀ (ks : List Int) (fs : List (Int × Fl)), (looseL fs ks).length ≤ (ks.map fun n => (fileAt fs n).b.length).sum
  | [], _ => Nat.le_refl _
  | n :: ks, fs => by
    have ih := looseL_len ks fs
    have e : looseL fs (n :: ks) = loose1 fs n ++ looseL fs ks := by unfold looseL; rw [List.flatMap_cons]
    rw [e, List.length_append, List.map_cons, List.sum_cons]
    have : (loose1 fs n).length ≤ (fileAt fs n).b.length := by
      unfold loose1
      rw [List.length_map, List.length_range']
      omega
    omega
theorem looseL_bound {d : Dsk} (h : DOk d) {ks : List Int} (hk : ks.Nodup) : (looseL d.fs ks).length ≤ 16777216 :=
  Nat.le_trans (looseL_len ks d.fs) (Nat.le_trans (files_sum ks d.fs hk h.nodup) h.used')
theorem flipF_fst (fs : List (Int × Fl)) (n : Int) (j m : Nat) : (flipF fs n j m).map Prod.fst = fs.map Prod.fst := by
  unfold flipF
  rw [List.map_map]
  refine List.map_congr_left (fun p _ => ?_)
  simp only [Function.comp]
  split <;> rfl
theorem bitB_range (x : Int) (hx : 0 ≤ x ∧ x ≤ 255) (m : Nat) (hm : m < 8) : 0 ≤ bitB x m ∧ bitB x m ≤ 255 := by
  obtain ⟨a, rfl⟩ := Int.eq_ofNat_of_zero_le hx.1
  have h : ∀ a : Fin 256, ∀ k : Fin 8, 0 ≤ bits .xor .u8 ((a.val : Nat) : Int) (2 ^ k.val % 256) ∧ bits .xor .u8 ((a.val : Nat) : Int) (2 ^ k.val % 256) ≤ 255 := by decide +kernel
  exact h ⟨a, by omega⟩ ⟨m, hm⟩
theorem DOk.flip {d : Dsk} (h : DOk d) (n : Int) (j m : Nat) (hm : m < 8) : DOk { d with fs := flipF d.fs n j m } := by
  have hu : usedL (flipF d.fs n j m) = usedL d.fs := by
    unfold usedL flipF
    rw [List.map_map]
    congr 1
    refine List.map_congr_left (fun p _ => ?_)
    simp only [Function.comp]
    split <;> simp
  refine ⟨h.left, h.room, by show (usedL (flipF d.fs n j m) : Int) ≤ _; rw [hu]; exact h.used, by show ((flipF d.fs n j m).map Prod.fst).Nodup; rw [flipF_fst]; exact h.nodup, fun p hp => ?_⟩
  unfold flipF at hp
  obtain ⟨q, hq, rfl⟩ := List.mem_map.1 hp
  obtain ⟨h1, h2, h3, h4⟩ := h.file q hq
  split
  · refine ⟨h1, (fun e => h2 ?_), ⟨h3.1, by simp only [List.length_set]; exact h3.2⟩, fun x hx => ?_⟩
    · have := congrArg List.length e
      simpa using this
    · rcases List.mem_or_eq_of_mem_set hx with hx | rfl
      · exact h4 x hx
      · refine bitB_range _ ?_ m hm
        by_cases hj : j < q.2.b.length
        · rw [List.getD_eq_getElem?_getD, List.getElem?_eq_getElem hj]
          exact h4 _ (List.getElem_mem hj)
        · rw [List.getD_eq_getElem?_getD, List.getElem?_eq_none (by omega)]
          decide
  · exact ⟨h1, h2, h3, h4⟩
theorem cutN_keys {keep ks : List Int} {fs : List (Int × Fl)} : ∀ (i : Nat) (n : Int), n ∈ (Disk.cutN keep ks fs i).map Prod.fst → n ∈ fs.map Prod.fst ∨ n ∈ ks
  | 0, n, h => .inl h
  | i + 1, n, h => by
    unfold Disk.cutN at h
    split at h
    · rename_i hi
      obtain ⟨p, hp, rfl⟩ := List.mem_map.1 h
      unfold Disk.cut1 at hp
      rcases setF_mem hp with ⟨rfl, _⟩ | ⟨hp, _⟩
      · right
        rw [List.getD_eq_getElem?_getD, List.getElem?_eq_getElem hi]
        exact List.getElem_mem hi
      · exact cutN_keys i _ (List.mem_map.2 ⟨p, hp, rfl⟩)
    · exact cutN_keys i n h
theorem DOk.crash {d : Dsk} (h : DOk d) (keep : List Int) (flip : Int) : DOk (crashD d keep flip) := by
  have h1 := h.cutN keep (keysS d.fs) (keysS_range h) (keysS d.fs).length
  have h2 : DOk { d with fs := flipD (Disk.cutN keep (keysS d.fs) d.fs (keysS d.fs).length) (looseL (Disk.cutN keep (keysS d.fs) d.fs (keysS d.fs).length) (keysS d.fs)) flip } := by
    unfold flipD
    split
    · exact DOk.flip (d := { d with fs := Disk.cutN keep (keysS d.fs) d.fs (keysS d.fs).length }) h1 _ _ _ (by omega)
    · exact h1
  have h3 := h2.hard
  exact ⟨(fun e => by cases e), h3.room, h3.used, h3.nodup, h3.file⟩
end Go.Proofs.Ytjnbbmiccbjjbaa.Disk
