/- The plain disk: what stays true of it. -/
import Derived.Test.YtjnbbmiccbjjbaaDiskB
namespace Go.Proofs.Ytjnbbmiccbjjbaa.Disk
open Go.RowKit Go.Proofs Go.Proofs.Ytjnbbmiccbjjbaa.Ma Go.Proofs.Ytjnbbmiccbjjbaa.Wire Go.Proofs.Ytjnbbmiccbjjbaa.MapI

theorem Dk.keep {W W' : World} {D : Nat → Prop} {B : Nat} {d : Dsk} (h : Dk W D B d) (hb : ∀ k, D k → W'.heap[k]? = W.heap[k]?) (hs : W.heap.size ≤ W'.heap.size) : Dk W' D B d := by
  obtain ⟨bm, m, h0, hm, hf, hD1, hD2, hD3⟩ := h
  exact ⟨bm, m, (hb B hD1).trans h0, hm.same (hb bm hD2), hf.same (fun _ h => h) (fun k hk _ _ => hb k hk), hD1, hD2, fun k hk => Nat.lt_of_lt_of_le (hD3 k hk) hs⟩
theorem Dk.lt {W : World} {D : Nat → Prop} {B : Nat} {d : Dsk} (h : Dk W D B d) : ∀ k, D k → k < W.heap.size := by obtain ⟨_, _, _, _, _, _, _, h3⟩ := h; exact h3
theorem Dk.kx {W W' : World} {D : Nat → Prop} {B L : Nat} {d : Dsk} (h : Dk W D B d) (hL : ¬ D L) (hk : ∀ base, KX L base W W') : Dk W' D B d :=
  Dk.keep h (fun k hD => (hk (k + 1)).block k (by omega) (fun e => hL (e ▸ hD))) (hk 0).size

theorem KD.wide {D D' : Nat → Prop} {w w' : World} (h : KD D w w') (hD : ∀ k, D k → D' k) : KD D' w w' := ⟨h.os, h.tape, h.output, h.size, fun k hk hn => h.block k hk (fun e => hn (hD k e)), h.bytes⟩

theorem KD.step {D : Nat → Prop} {wX W W' : World} (h : KD D wX W) (hb : Below wX.heap.size W W') : KD D wX W' :=
  ⟨hb.os.trans h.os, hb.tape.trans h.tape, hb.output.trans h.output, Nat.le_trans h.size hb.size, fun k hk hn => (hb.block k hk).trans (h.block k hk hn), fun k cells e => (hb.block k (Rdr.lt_of e)).trans (h.bytes k cells e)⟩
theorem KD.below {D : Nat → Prop} {w W : World} {n : Nat} (h : KD D w W) (hD : ∀ k, D k → n ≤ k) (hn : n ≤ w.heap.size) : Below n w W :=
  ⟨h.os, h.tape, h.output, h.size, fun k hk => h.block k (by omega) (fun e => by have := hD k e; omega)⟩

theorem KD.trans' {D D' : Nat → Prop} {w W W' : World} (h : KD D w W) (k : KD D' W W') (hD : ∀ i, D' i → D i ∨ w.heap.size ≤ i) : KD D w W' := h.less k hD
def noFl : Fl := ⟨[], 0⟩
theorem fileAt_cons (p : Int × Fl) (fs : List (Int × Fl)) (k : Int) : fileAt (p :: fs) k = if p.1 = k then p.2 else fileAt fs k := by
  unfold fileAt
  rw [List.find?_cons]
  by_cases h : p.1 = k
  · rw [if_pos h, show (p.1 == k) = true by simpa using h]; rfl
  · rw [if_neg h, show (p.1 == k) = false by simpa using h]
theorem fileAt_none : ∀ {fs : List (Int × Fl)} {k : Int}, (∀ p ∈ fs, p.1 ≠ k) → fileAt fs k = noFl
  | [], _, _ => rfl
  | p :: fs, k, h => by rw [fileAt_cons, if_neg (h p (by simp)), fileAt_none (fun q hq => h q (by simp [hq]))]
theorem fileAt_mem : ∀ {fs : List (Int × Fl)} (_ : (fs.map Prod.fst).Nodup) {p : Int × Fl} (_ : p ∈ fs), fileAt fs p.1 = p.2
  | q :: fs, hn, p, hp => by
    rw [List.map_cons, List.nodup_cons] at hn
    rw [fileAt_cons]
    rcases List.mem_cons.1 hp with rfl | hp
    · rw [if_pos rfl]
    · rw [if_neg (fun e => hn.1 (List.mem_map.2 ⟨p, hp, e.symm⟩)), fileAt_mem hn.2 hp]
theorem fileAt_in : ∀ {fs : List (Int × Fl)} {k : Int}, fileAt fs k ≠ noFl → (k, fileAt fs k) ∈ fs
  | [], k, h => absurd rfl h
  | p :: fs, k, h => by
    rw [fileAt_cons] at h ⊢
    split at h
    · rename_i e
      rw [if_pos e, ← e]
      simp
    · rename_i e
      rw [if_neg e]
      exact List.mem_cons_of_mem _ (fileAt_in h)
theorem any_key {α : Type} {m : List (Int × α)} {k : Int} : m.any (fun p => p.1 == k) = true ↔ k ∈ m.map Prod.fst := by
  rw [List.any_eq_true, List.mem_map]
  exact ⟨fun ⟨p, hp, e⟩ => ⟨p, hp, by simpa using e⟩, fun ⟨p, hp, e⟩ => ⟨p, hp, by simpa using e⟩⟩
theorem putL_fst {α : Type} (m : List (Int × α)) (k : Int) (v : α) : (putL m k v).map Prod.fst = if k ∈ m.map Prod.fst then m.map Prod.fst else m.map Prod.fst ++ [k] := by
  unfold putL
  by_cases h : k ∈ m.map Prod.fst
  · rw [if_pos (any_key.2 h), if_pos h, List.map_map]
    refine List.map_congr_left (fun p _ => ?_)
    simp only [Function.comp]
    split
    · rename_i e; exact (show p.1 = k by simpa using e).symm
    · rfl
  · rw [if_neg (fun e => h (any_key.1 e)), if_neg h, List.map_append]
    rfl
theorem putL_nodup {α : Type} {m : List (Int × α)} (hn : (m.map Prod.fst).Nodup) (k : Int) (v : α) : ((putL m k v).map Prod.fst).Nodup := by
  rw [putL_fst]
  split
  · exact hn
  · rename_i h
    rw [List.nodup_append]
    refine ⟨hn, by simp, fun a ha b hb => ?_⟩
    rw [List.mem_singleton.1 hb]
    exact fun e => h (e ▸ ha)
theorem delL_nodup {α : Type} {m : List (Int × α)} (hn : (m.map Prod.fst).Nodup) (k : Int) : ((delL m k).map Prod.fst).Nodup :=
  hn.sublist (List.Sublist.map _ List.filter_sublist)
theorem putL_mem {α : Type} {m : List (Int × α)} {k : Int} {v : α} {p : Int × α} (h : p ∈ putL m k v) : p = (k, v) ∨ (p ∈ m ∧ p.1 ≠ k) := by
  unfold putL at h
  split at h
  · obtain ⟨q, hq, e⟩ := List.mem_map.1 h
    by_cases hk : q.1 = k
    · rw [if_pos (by simpa using hk)] at e
      exact .inl e.symm
    · rw [if_neg (by simpa using hk)] at e
      subst e
      exact .inr ⟨hq, hk⟩
  · rename_i hno
    rcases List.mem_append.1 h with h | h
    · refine .inr ⟨h, fun e => hno ?_⟩
      rw [List.any_eq_true]
      exact ⟨p, h, by simpa using e⟩
    · exact .inl (List.mem_singleton.1 h)
theorem delL_mem {α : Type} {m : List (Int × α)} {k : Int} {p : Int × α} : p ∈ delL m k ↔ p ∈ m ∧ p.1 ≠ k := by
  unfold delL
  rw [List.mem_filter]
  simp
theorem fileAt_map (k : Int) (f : Fl) : ∀ (fs : List (Int × Fl)) (j : Int), k ∈ fs.map Prod.fst → fileAt (fs.map fun p => if p.1 == k then (k, f) else p) j = if j = k then f else fileAt fs j
  | [], _, h => by cases h
  | p :: fs, j, h => by
    rw [List.map_cons, fileAt_cons, fileAt_cons]
    by_cases hp : p.1 = k
    · rw [if_pos (show (p.1 == k) = true by simpa using hp)]
      by_cases hj : j = k
      · subst hj
        rw [if_pos rfl, if_pos rfl]
      · rw [if_neg (fun e => hj e.symm), if_neg hj, if_neg (fun e => hj (by rw [← e, hp]))]
        by_cases hin : k ∈ fs.map Prod.fst
        · rw [fileAt_map k f fs j hin, if_neg hj]
        · have e : (fs.map fun p => if p.1 == k then (k, f) else p) = fs := by
            conv => rhs; rw [← List.map_id fs]
            refine List.map_congr_left (fun q hq => ?_)
            rw [if_neg]
            · rfl
            · intro e
              exact hin (List.mem_map.2 ⟨q, hq, by simpa using e⟩)
          rw [e]
    · rw [if_neg (show ¬ (p.1 == k) = true by simpa using hp)]
      have hin : k ∈ fs.map Prod.fst := by
        rw [List.map_cons] at h
        rcases List.mem_cons.1 h with e | e
        · exact absurd e.symm hp
        · exact e
      by_cases hj : p.1 = j
      · rw [if_pos hj, if_pos hj, if_neg (fun e => hp (by rw [hj, e]))]
      · rw [if_neg hj, if_neg hj, fileAt_map k f fs j hin]
theorem fileAt_app (k : Int) (f : Fl) : ∀ (fs : List (Int × Fl)) (j : Int), ¬ k ∈ fs.map Prod.fst → fileAt (fs ++ [(k, f)]) j = if j = k then f else fileAt fs j
  | [], j, _ => by
    rw [List.nil_append, fileAt_cons]
    by_cases h : j = k
    · rw [if_pos h, if_pos h.symm]
    · rw [if_neg h, if_neg (fun e => h e.symm)]
  | p :: fs, j, h => by
    rw [List.cons_append, fileAt_cons, fileAt_cons, fileAt_app k f fs j (fun e => h (by rw [List.map_cons]; exact List.mem_cons_of_mem _ e))]
    by_cases hp : p.1 = j
    · rw [if_pos hp, if_pos hp, if_neg]
      rintro rfl
      exact h (by rw [List.map_cons, hp]; simp)
    · rw [if_neg hp, if_neg hp]
theorem fileAt_put (fs : List (Int × Fl)) (k j : Int) (f : Fl) : fileAt (putL fs k f) j = if j = k then f else fileAt fs j := by
  unfold putL
  by_cases h : k ∈ fs.map Prod.fst
  · rw [if_pos (any_key.2 h)]
    exact fileAt_map k f fs j h
  · rw [if_neg (fun e => h (any_key.1 e))]
    exact fileAt_app k f fs j h
theorem fileAt_del (k : Int) : ∀ (fs : List (Int × Fl)) (j : Int), fileAt (delL fs k) j = if j = k then noFl else fileAt fs j
  | [], j => by
    split <;> rfl
  | p :: fs, j => by
    have ih := fileAt_del k fs j
    unfold delL at ih ⊢
    by_cases h : p.1 = k
    · rw [List.filter_cons_of_neg (by simpa using h), ih, fileAt_cons]
      by_cases hj : j = k
      · rw [if_pos hj, if_pos hj]
      · rw [if_neg hj, if_neg hj, if_neg (fun e => hj (by rw [← e, h]))]
    · rw [List.filter_cons_of_pos (by simpa using h), fileAt_cons, fileAt_cons, ih]
      by_cases hj : p.1 = j
      · rw [if_pos hj, if_pos hj, if_neg (fun e => h (by rw [hj, e]))]
      · rw [if_neg hj, if_neg hj]
/-- What set leaves at each number. -/
theorem fileAt_set (fs : List (Int × Fl)) (k j : Int) (f : Fl) : fileAt (setF fs k f) j = if j = k then (if f.b.length = 0 then noFl else f) else fileAt fs j := by
  unfold setF
  by_cases h : f.b.length = 0
  · rw [if_pos h, if_pos h, fileAt_del, fileAt_put]
    split <;> rfl
  · rw [if_neg h, if_neg h, fileAt_put]
theorem usedL_cons (p : Int × Fl) (fs : List (Int × Fl)) : usedL (p :: fs) = p.2.b.length + usedL fs := by unfold usedL; rw [List.map_cons, List.sum_cons]
theorem usedL_app (fs gs : List (Int × Fl)) : usedL (fs ++ gs) = usedL fs + usedL gs := by unfold usedL; rw [List.map_append, List.sum_append]
theorem used_del (k : Int) : ∀ {fs : List (Int × Fl)} (_ : (fs.map Prod.fst).Nodup), usedL (delL fs k) + (fileAt fs k).b.length = usedL fs
  | [], _ => rfl
  | p :: fs, hn => by
    rw [List.map_cons, List.nodup_cons] at hn
    have ih := used_del k hn.2
    rw [fileAt_cons, usedL_cons]
    by_cases h : p.1 = k
    · have e : delL (p :: fs) k = fs := by
        unfold delL
        rw [List.filter_cons_of_neg (by simpa using h), List.filter_eq_self]
        intro q hq
        have : q.1 ≠ k := fun e => hn.1 (List.mem_map.2 ⟨q, hq, by rw [e, h]⟩)
        simpa using this
      rw [e, if_pos h]
      omega
    · have e : delL (p :: fs) k = p :: delL fs k := by unfold delL; rw [List.filter_cons_of_pos (by simpa using h)]
      rw [e, if_neg h, usedL_cons]
      omega
theorem used_put {fs : List (Int × Fl)} (hn : (fs.map Prod.fst).Nodup) (k : Int) (f : Fl) : usedL (putL fs k f) + (fileAt fs k).b.length = usedL fs + f.b.length := by
  have h1 := used_del k (putL_nodup hn k f)
  rw [fileAt_put, if_pos rfl] at h1
  have h2 := used_del k hn
  have h3 : usedL (delL (putL fs k f) k) = usedL (delL fs k) := by
    unfold putL
    split
    · have e : delL (fs.map fun p => if p.1 == k then (k, f) else p) k = delL fs k := by
        unfold delL
        clear h1 h2 hn
        induction fs with
        | nil => rfl
        | cons p fs ih =>
          rename_i hany
          have ih' : (fs.map fun p => if p.1 == k then (k, f) else p).filter (fun p => !(p.1 == k)) = fs.filter (fun p => !(p.1 == k)) := by
            by_cases hb : fs.any (fun p => p.1 == k) = true
            · exact ih hb
            · congr 1
              conv => rhs; rw [← List.map_id fs]
              refine List.map_congr_left (fun q hq => ?_)
              rw [if_neg]
              · rfl
              · intro e
                exact hb (List.any_eq_true.2 ⟨q, hq, e⟩)
          rw [List.map_cons]
          by_cases h : p.1 = k
          · rw [if_pos (by simpa using h), List.filter_cons_of_neg (by simp), List.filter_cons_of_neg (by simpa using h), ih']
          · rw [if_neg (by simpa using h), List.filter_cons_of_pos (by simpa using h), List.filter_cons_of_pos (by simpa using h), ih']
      rw [e]
    · unfold delL
      rw [List.filter_append]
      simp
  omega
theorem used_set {fs : List (Int × Fl)} (hn : (fs.map Prod.fst).Nodup) (k : Int) (f : Fl) : usedL (setF fs k f) + (fileAt fs k).b.length = usedL fs + f.b.length := by
  unfold setF
  split
  · rename_i h
    have h1 := used_put hn k f
    have h2 := used_del k (putL_nodup hn k f)
    rw [fileAt_put, if_pos rfl] at h2
    omega
  · exact used_put hn k f

/-- What holds of a disk that the methods have made. -/
structure DOk (d : Dsk) : Prop where
  left : d.armed = true → 0 ≤ d.left ∧ d.left ≤ 9223372036854775807
  room : 0 ≤ d.room ∧ d.room ≤ 16777216
  used : (usedL d.fs : Int) ≤ d.room
  nodup : (d.fs.map Prod.fst).Nodup
  file : ∀ p ∈ d.fs, (0 ≤ p.1 ∧ p.1 < 64) ∧ p.2.b ≠ [] ∧ (0 ≤ p.2.dur ∧ p.2.dur ≤ p.2.b.length) ∧ ∀ x ∈ p.2.b, 0 ≤ x ∧ x ≤ 255
theorem DOk.used' {d : Dsk} (h : DOk d) : usedL d.fs ≤ 16777216 := by have := h.used; have := h.room; omega
theorem DOk.at {d : Dsk} (h : DOk d) (k : Int) : (0 ≤ (fileAt d.fs k).dur ∧ (fileAt d.fs k).dur ≤ (fileAt d.fs k).b.length) ∧ ∀ x ∈ (fileAt d.fs k).b, 0 ≤ x ∧ x ≤ 255 := by
  by_cases e : fileAt d.fs k = noFl
  · rw [e]
    exact ⟨⟨Int.le_refl _, Int.le_refl _⟩, fun x hx => by cases hx⟩
  · exact (h.file _ (fileAt_in e)).2.2
theorem DOk.len {d : Dsk} (h : DOk d) (k : Int) : (fileAt d.fs k).b.length ≤ 16777216 := Nat.le_trans (fileAt_used d.fs k) h.used'
theorem DOk.new {room : Int} (h1 : ¬ room < 0) (h2 : ¬ 16777216 < room) : DOk (newDsk room) :=
  ⟨(fun h => by cases h), ⟨by show 0 ≤ room; omega, by show room ≤ _; omega⟩, by show (0 : Int) ≤ room; omega, by simp [newDsk], (fun p hp => by cases hp)⟩
theorem DOk.step {d : Dsk} (h : DOk d) : DOk (stepD d).2 := by
  have hl := h.left
  unfold stepD
  split
  · exact h
  · rename_i ha
    have ha' : d.armed = true := by simpa using ha
    obtain ⟨h1, h2⟩ := hl ha'
    split
    · exact ⟨(fun e => by cases e), h.room, h.used, h.nodup, h.file⟩
    · exact ⟨fun _ => ⟨by show 0 ≤ d.left - 1; omega, by show d.left - 1 ≤ _; omega⟩, h.room, h.used, h.nodup, h.file⟩
theorem setF_mem {fs : List (Int × Fl)} {k : Int} {f : Fl} {p : Int × Fl} (h : p ∈ setF fs k f) : (p = (k, f) ∧ f.b ≠ []) ∨ (p ∈ fs ∧ p.1 ≠ k) := by
  unfold setF at h
  split at h
  · obtain ⟨h1, h2⟩ := delL_mem.1 h
    rcases putL_mem h1 with rfl | h
    · exact absurd rfl h2
    · exact .inr h
  · rename_i hl
    rcases putL_mem h with rfl | h
    · exact .inl ⟨rfl, fun e => hl (by rw [e]; rfl)⟩
    · exact .inr h
theorem setF_nodup {fs : List (Int × Fl)} (hn : (fs.map Prod.fst).Nodup) (k : Int) (f : Fl) : ((setF fs k f).map Prod.fst).Nodup := by
  unfold setF
  split
  · exact delL_nodup (putL_nodup hn k f) k
  · exact putL_nodup hn k f
theorem DOk.set {d : Dsk} (h : DOk d) {k : Int} (hk : 0 ≤ k ∧ k < 64) {f : Fl} (hd : 0 ≤ f.dur ∧ f.dur ≤ f.b.length) (hb : ∀ x ∈ f.b, 0 ≤ x ∧ x ≤ 255) (hu : (usedL d.fs : Int) + f.b.length ≤ d.room + (fileAt d.fs k).b.length) : DOk { d with fs := setF d.fs k f } := by
  refine ⟨h.left, h.room, ?_, setF_nodup h.nodup k f, fun p hp => ?_⟩
  · have := used_set h.nodup k f
    show (usedL (setF d.fs k f) : Int) ≤ d.room
    omega
  · rcases setF_mem hp with ⟨rfl, hne⟩ | ⟨hp, _⟩
    · exact ⟨hk, hne, hd, hb⟩
    · exact h.file p hp
theorem DOk.append {d : Dsk} (h : DOk d) (n : Int) {bs : List Int} (hb : ∀ x ∈ bs, 0 ≤ x ∧ x ≤ 255) : DOk (appendD d n bs).2 := by
  unfold appendD
  split
  · exact h
  · rename_i hr
    split
    · exact h
    · split
      · exact h
      · rename_i hf
        refine DOk.step (d := { d with fs := setF d.fs n ⟨(fileAt d.fs n).b ++ bs, (fileAt d.fs n).dur⟩ }) (h.set (by omega) ?_ ?_ ?_)
        · have := (h.at n).1
          show 0 ≤ (fileAt d.fs n).dur ∧ (fileAt d.fs n).dur ≤ (((fileAt d.fs n).b ++ bs).length : Int)
          rw [List.length_append]
          exact ⟨this.1, by omega⟩
        · exact bytes_append (h.at n).2 hb
        · show (usedL d.fs : Int) + (((fileAt d.fs n).b ++ bs).length : Int) ≤ _
          rw [List.length_append]
          omega
theorem usedL_hard (fs : List (Int × Fl)) : usedL (fs.map fun p => (p.1, hardF p.2)) = usedL fs := by
  unfold usedL
  rw [List.map_map]
  rfl
theorem DOk.hard {d : Dsk} (h : DOk d) : DOk { d with fs := d.fs.map fun p => (p.1, hardF p.2) } := by
  refine ⟨h.left, h.room, by show (usedL _ : Int) ≤ _; rw [usedL_hard]; exact h.used, ?_, fun p hp => ?_⟩
  · show ((d.fs.map fun p => (p.1, hardF p.2)).map Prod.fst).Nodup
    rw [List.map_map]
    exact h.nodup
  · obtain ⟨q, hq, rfl⟩ := List.mem_map.1 hp
    obtain ⟨h1, h2, h3, h4⟩ := h.file q hq
    exact ⟨h1, h2, ⟨by show 0 ≤ ((q.2.b.length : Nat) : Int); omega, Int.le_refl _⟩, h4⟩
theorem DOk.sync {d : Dsk} (h : DOk d) : DOk (syncD d).2 := by
  unfold syncD
  split
  · exact h
  · split
    · exact h.step.hard
    · exact h.step
theorem DOk.trunc {d : Dsk} (h : DOk d) (n size : Int) : DOk (truncD d n size).2 := by
  unfold truncD
  split
  · exact h
  · rename_i hr
    split
    · exact h
    · split
      · have hs := h.step
        have ha := h.at n
        have hla : ((fileAt d.fs n).b.take size.toNat).length ≤ size.toNat := List.length_take_le _ _
        have hlb : ((fileAt d.fs n).b.take size.toNat).length = min size.toNat (fileAt d.fs n).b.length := List.length_take
        refine hs.set (d := (stepD d).2) (by omega) ?_ ?_ ?_
        · show 0 ≤ (if size < (fileAt d.fs n).dur then size else (fileAt d.fs n).dur) ∧ (if size < (fileAt d.fs n).dur then size else (fileAt d.fs n).dur) ≤ (((fileAt d.fs n).b.take size.toNat).length : Int)
          split <;> omega
        · exact fun x hx => ha.2 x (List.mem_of_mem_take hx)
        · have h1 := hs.used
          rw [stepD_fs] at h1 ⊢
          show (usedL d.fs : Int) + (((fileAt d.fs n).b.take size.toNat).length : Int) ≤ _
          omega
      · exact h.step

theorem readD_ok {d : Dsk} (h : DOk d) (n : Int) : (∀ x ∈ (readD d n).1, 0 ≤ x ∧ x ≤ 255) ∧ (readD d n).1.length ≤ 16777216 := by
  unfold readD
  split
  · exact ⟨(fun x hx => by cases hx), by decide⟩
  · split
    · exact ⟨(fun x hx => by cases hx), by decide⟩
    · exact ⟨(h.at n).2, h.len n⟩

/-- What is at each number behind an Append, a Sync, a Truncate. -/
theorem fileAt_hard (k : Int) : ∀ (fs : List (Int × Fl)), fileAt (fs.map fun p => (p.1, hardF p.2)) k = hardF (fileAt fs k)
  | [] => rfl
  | p :: fs => by
    rw [List.map_cons, fileAt_cons, fileAt_cons, fileAt_hard k fs]
    split <;> rfl
end Go.Proofs.Ytjnbbmiccbjjbaa.Disk
