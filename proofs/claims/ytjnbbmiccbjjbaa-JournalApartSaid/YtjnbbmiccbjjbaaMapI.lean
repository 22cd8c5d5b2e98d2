/- Maps keyed by ints, read as lists of pairs: look-up, update, deletion. -/
import Derived.Test.YtjnbbmiccbjjbaaWire
import Derived.Maps.Keyed
import Derived.Maps.RangeRun
import Derived.Maps.Range
namespace Go.Proofs.Ytjnbbmiccbjjbaa.MapI
open Go Go.RowKit Go.Proofs Go.Proofs.Ytjnbbmiccbjjbaa.Wire
open Go.ChangeMaps (setBlock)
open Go.Proofs.YtjnbbmiccbjjbaaW.PrintWords
open Go.Maps (Keyed)

/-- Block b is a map with the pairs m, the elder first. -/
def IM (W : World) (b : Nat) (m : List (Int × Value)) : Prop :=
  ∃ es clock, W.heap[b]? = some (.map es clock) ∧ es.toList.map (fun e => (e.key, e.val)) = m.map (fun p => (Value.int .i64 p.1, p.2)) ∧ (m.map Prod.fst).Nodup ∧ (∀ p ∈ m, -9223372036854775808 ≤ p.1 ∧ p.1 ≤ 9223372036854775807) ∧ (es.toList.map (·.born)).Nodup ∧ ∀ x ∈ es.toList, x.born < clock

theorem IM.lt {W : World} {b : Nat} {m : List (Int × Value)} (h : IM W b m) : b < W.heap.size := by
  obtain ⟨es, clock, hb, _⟩ := h
  exact (Array.getElem?_eq_some_iff.1 hb).1
theorem IM.same {W W' : World} {b : Nat} {m : List (Int × Value)} (h : IM W b m) (hb : W'.heap[b]? = W.heap[b]?) : IM W' b m := by
  obtain ⟨es, clock, h1, h2⟩ := h
  exact ⟨es, clock, hb.trans h1, h2⟩
theorem IM.below {W W' : World} {b : Nat} {m : List (Int × Value)} (h : IM W b m) (hb : Below W.heap.size W W') : IM W' b m := h.same (hb.block b h.lt)
theorem IM.made (w : World) : IM (w.alloc (.map #[] 0)) w.heap.size [] := ⟨#[], 0, World.alloc_heap_new w _, rfl, by simp, by simp, by simp, by simp⟩

/-- What stands at a key. -/
def lookL (m : List (Int × Value)) (k : Int) (z : Value) : Value := ((m.find? (fun p => p.1 == k)).map Prod.snd).getD z
def putL {α : Type} (m : List (Int × α)) (k : Int) (v : α) : List (Int × α) := if m.any (fun p => p.1 == k) then m.map (fun p => if p.1 == k then (k, v) else p) else m ++ [(k, v)]
def delL {α : Type} (m : List (Int × α)) (k : Int) : List (Int × α) := m.filter (fun p => !(p.1 == k))

theorem keyOf_i64 {P : Program} {kt : TypeId} (hk : P.underlying kt = some (.int .i64)) (k : Int) (h : -9223372036854775808 ≤ k ∧ k ≤ 9223372036854775807) : ∃ l, keyOf P kt (.int .i64 k) = some l := by
  have hw : (Lit.int .i64 k).wf = true := by
    simp only [Lit.wf, Bool.and_eq_true, decide_eq_true_eq]
    exact h
  exact ⟨_, Maps.keyOf_int_mk hk hw⟩

/-- The entry at a key, or that there is none: in the words of the list. -/
theorem find_at {P : Program} {kt : TypeId} (hk : P.underlying kt = some (.int .i64)) (W : World) (es : Array MapEntry) (m : List (Int × Value)) (hm : es.toList.map (fun e => (e.key, e.val)) = m.map (fun p => (Value.int .i64 p.1, p.2))) (hr : ∀ p ∈ m, -9223372036854775808 ≤ p.1 ∧ p.1 ≤ 9223372036854775807) (k : Int) (hkr : -9223372036854775808 ≤ k ∧ k ≤ 9223372036854775807) :
    ((Instr.findKey kt (.int .i64 k) es.toList).run P W = .ok none W ∧ ∀ p ∈ m, p.1 ≠ k) ∨
    ∃ j v, (Instr.findKey kt (.int .i64 k) es.toList).run P W = .ok (some (j, v)) W ∧ m[j]? = some (k, v) := by
  obtain ⟨lx, hlx⟩ := keyOf_i64 hk k hkr
  have hlen : es.toList.length = m.length := by have := congrArg List.length hm; simpa using this
  have hat : ∀ j (h1 : j < es.toList.length) (h2 : j < m.length), (es.toList[j].key, es.toList[j].val) = (Value.int .i64 m[j].1, m[j].2) := by
    intro j h1 h2
    have := congrArg (fun l => l[j]?) hm
    simp only [List.getElem?_map, List.getElem?_eq_getElem h1, List.getElem?_eq_getElem h2, Option.map_some, Option.some.injEq] at this
    exact this
  have hkeys : ∀ e ∈ es.toList, ∃ l, keyOf P kt e.key = some l := by
    intro e he
    obtain ⟨j, hj, rfl⟩ := List.mem_iff_getElem.1 he
    have h := hat j hj (by omega)
    have e1 : es.toList[j].key = Value.int .i64 m[j].1 := congrArg Prod.fst h
    rw [e1]
    exact keyOf_i64 hk _ (hr _ (List.getElem_mem _))
  rcases (Maps.int_keyed hk).find W hlx es.toList hkeys with ⟨h1, h2⟩ | ⟨j, e, h1, h2, h3⟩
  · refine .inl ⟨h1, fun p hp e => ?_⟩
    obtain ⟨j, hj, rfl⟩ := List.mem_iff_getElem.1 hp
    have h := hat j (by omega) hj
    have e1 : es.toList[j].key = Value.int .i64 m[j].1 := congrArg Prod.fst h
    exact h2 _ (List.getElem_mem _) (by rw [e1, e])
  · have hj : j < es.toList.length := (List.getElem?_eq_some_iff.1 h2).1
    have he : es.toList[j] = e := (List.getElem?_eq_some_iff.1 h2).2
    have h := hat j hj (by omega)
    rw [he] at h
    have e1 : e.key = Value.int .i64 m[j].1 := congrArg Prod.fst h
    have e2 : e.val = m[j].2 := congrArg Prod.snd h
    rw [e1] at h3
    injection h3 with _ h3
    exact .inr ⟨j, e.val, h1, by rw [List.getElem?_eq_getElem (by omega), e2, ← h3]⟩

theorem lookL_at {m : List (Int × Value)} (hn : (m.map Prod.fst).Nodup) {k : Int} {v z : Value} (h : (k, v) ∈ m) : lookL m k z = v := by
  unfold lookL
  induction m with
  | nil => cases h
  | cons p m ih =>
    rw [List.map_cons, List.nodup_cons] at hn
    rw [List.find?_cons]
    rcases List.mem_cons.1 h with rfl | h
    · simp
    · have : (p.1 == k) = false := by
        simp only [beq_eq_false_iff_ne]
        rintro rfl
        exact hn.1 (List.mem_map.2 ⟨_, h, rfl⟩)
      rw [this]
      exact ih hn.2 h
theorem lookL_none {m : List (Int × Value)} {k : Int} {z : Value} (h : ∀ p ∈ m, p.1 ≠ k) : lookL m k z = z := by
  unfold lookL
  rw [List.find?_eq_none.2 (fun p hp => by simpa using h p hp)]
  rfl

theorem look_run {P : Program} {t kt et : TypeId} (ht : P.underlying t = some (.map kt et)) (hk : P.underlying kt = some (.int .i64)) {W : World} {b : Nat} {m : List (Int × Value)} (h : IM W b m) {z : Value} (hz : (zeroValue et).run P W = .ok z W) (k : Int) (hkr : -9223372036854775808 ≤ k ∧ k ≤ 9223372036854775807) :
    (Instr.lookup t (.map (some b)) (.int .i64 k) false).run P W = .ok (lookL m k z) W := by
  obtain ⟨es, clock, hb, hm, hn, hr, _⟩ := h
  obtain ⟨lx, hlx⟩ := keyOf_i64 hk k hkr
  rcases find_at hk W es m hm hr k hkr with ⟨h1, h2⟩ | ⟨j, v, h1, h2⟩
  · rw [lookL_none h2]
    simp [Instr.lookup, run_underlying ht, MapKept.run_getObj_map hb, (Maps.int_keyed hk).check W _ hlx, h1, hz, Result.andThen]
  · rw [lookL_at hn (List.mem_of_getElem? h2)]
    simp [Instr.lookup, run_underlying ht, MapKept.run_getObj_map hb, (Maps.int_keyed hk).check W _ hlx, h1, Result.andThen]

theorem setBlock_kx {W : World} {b : Nat} (o : Obj) (base : Nat) : KX b base W (setBlock W b o) :=
  ⟨rfl, rfl, rfl, by simp [setBlock], fun k _ hn => by simp only [setBlock]; rw [Array.getElem?_setIfInBounds_ne (fun e => hn e.symm)]⟩
theorem setBlock_at {W : World} {b : Nat} (o : Obj) (h : b < W.heap.size) : (setBlock W b o).heap[b]? = some o := by
  simp only [setBlock]
  rw [Array.getElem?_setIfInBounds_self_of_lt h]
theorem setBlock_size (W : World) (b : Nat) (o : Obj) : (setBlock W b o).heap.size = W.heap.size := by simp [setBlock]

theorem putL_new {m : List (Int × Value)} {k : Int} {v : Value} (h : ∀ p ∈ m, p.1 ≠ k) : putL m k v = m ++ [(k, v)] := by
  unfold putL
  rw [if_neg]
  simp only [List.any_eq_true, not_exists, not_and, Bool.not_eq_true, beq_eq_false_iff_ne]
  exact h
theorem putL_old {m : List (Int × Value)} (hn : (m.map Prod.fst).Nodup) {j : Nat} {k : Int} {u v : Value} (h : m[j]? = some (k, u)) : putL m k v = m.set j (k, v) := by
  unfold putL
  rw [if_pos (by rw [List.any_eq_true]; exact ⟨_, List.mem_of_getElem? h, by simp⟩)]
  have hj : j < m.length := (List.getElem?_eq_some_iff.1 h).1
  have hje : m[j] = (k, u) := (List.getElem?_eq_some_iff.1 h).2
  refine List.ext_getElem (by simp) (fun i h1 h2 => ?_)
  rw [List.getElem_map, List.getElem_set]
  by_cases hij : j = i
  · subst hij
    rw [if_pos rfl, hje]
    simp
  · rw [if_neg hij]
    have hi : i < m.length := by simpa using h1
    have : (m[i].1 == k) = false := by
      simp only [beq_eq_false_iff_ne]
      intro e
      have h3 := List.pairwise_iff_getElem.1 hn
      rcases Nat.lt_or_gt_of_ne hij with hl | hl
      · exact h3 j i (by simpa using hj) (by simpa using hi) hl (by rw [List.getElem_map, List.getElem_map, hje, e])
      · exact h3 i j (by simpa using hi) (by simpa using hj) hl (by rw [List.getElem_map, List.getElem_map, hje, e])
    rw [this]
    rfl

theorem put_run {P : Program} {t kt et : TypeId} (ht : P.underlying t = some (.map kt et)) (hk : P.underlying kt = some (.int .i64)) {W : World} {b : Nat} {m : List (Int × Value)} (h : IM W b m) (k : Int) (v : Value) (hkr : -9223372036854775808 ≤ k ∧ k ≤ 9223372036854775807) :
    ∃ W', (Instr.mapUpdate t (.map (some b)) (.int .i64 k) v).run P W = .ok () W' ∧ IM W' b (putL m k v) ∧ (∀ base, KX b base W W') ∧ W'.heap.size = W.heap.size := by
  obtain ⟨es, clock, hb, hm, hn, hr, hbn, hbc⟩ := h
  obtain ⟨lx, hlx⟩ := keyOf_i64 hk k hkr
  have hlt : b < W.heap.size := (Array.getElem?_eq_some_iff.1 hb).1
  rcases find_at hk W es m hm hr k hkr with ⟨h1, h2⟩ | ⟨j, u, h1, h2⟩
  · refine ⟨setBlock W b (.map (es.push { key := .int .i64 k, val := v, born := clock }) (clock + 1)), ?_, ?_, setBlock_kx _, setBlock_size _ _ _⟩
    · simp [Instr.mapUpdate, run_underlying ht, MapKept.run_getObj_map hb, (Maps.int_keyed hk).check W _ hlx, h1, MapKept.run_setObj_map _ hb, Result.andThen, setBlock]
    · rw [putL_new h2]
      refine ⟨_, _, setBlock_at _ hlt, ?_, ?_, ?_, ?_, ?_⟩
      · simp [hm]
      · rw [List.map_append, List.nodup_append]
        refine ⟨hn, by simp, ?_⟩
        intro a ha c hc
        simp only [List.map_cons, List.map_nil, List.mem_singleton] at hc
        obtain ⟨p, hp, rfl⟩ := List.mem_map.1 ha
        rw [hc]
        exact h2 p hp
      · intro p hp
        rcases List.mem_append.1 hp with hp | hp
        · exact hr p hp
        · rw [List.mem_singleton.1 hp]; exact hkr
      · rw [Array.toList_push, List.map_append, List.nodup_append]
        refine ⟨hbn, by simp, ?_⟩
        intro a ha c hc
        simp only [List.map_cons, List.map_nil, List.mem_singleton] at hc
        obtain ⟨x, hx, rfl⟩ := List.mem_map.1 ha
        have := hbc x hx
        omega
      · intro x hx
        rw [Array.toList_push] at hx
        rcases List.mem_append.1 hx with hx | hx
        · have := hbc x hx; omega
        · rw [List.mem_singleton.1 hx]; exact Nat.lt_succ_self _
  · have hj : j < m.length := (List.getElem?_eq_some_iff.1 h2).1
    have hlen : es.toList.length = m.length := by have := congrArg List.length hm; simpa using this
    have hje : j < es.toList.length := by omega
    have hjs : j < es.size := by simpa using hje
    have hkey : es[j].key = .int .i64 k := by
      have := congrArg (fun l => l[j]?) hm
      simp only [List.getElem?_map, List.getElem?_eq_getElem hje, h2, Option.map_some, Option.some.injEq] at this
      have e1 := congrArg Prod.fst this
      simpa using e1
    refine ⟨setBlock W b (.map (es.modify j fun e => { e with key := .int .i64 k, val := v }) clock), ?_, ?_, setBlock_kx _, setBlock_size _ _ _⟩
    · have hst := (Maps.int_keyed hk).stays W hlx
      simp [Instr.mapUpdate, run_underlying ht, MapKept.run_getObj_map hb, (Maps.int_keyed hk).check W _ hlx, h1, hjs, hkey, hst, MapKept.run_setObj_map _ hb, Result.andThen, setBlock]
    · rw [putL_old hn h2]
      have hes : (es.modify j fun e => { e with key := .int .i64 k, val := v }).toList = es.toList.set j { es[j] with key := .int .i64 k, val := v } := by
        rw [Array.toList_modify]
        refine List.ext_getElem (by simp) (fun i h3 h4 => ?_)
        rw [List.getElem_modify, List.getElem_set]
        split
        · rename_i e; subst e; simp
        · rfl
      have hborn : (es.modify j fun e => { e with key := .int .i64 k, val := v }).toList.map (·.born) = es.toList.map (·.born) := by
        rw [hes, List.map_set]
        refine List.ext_getElem (by simp) (fun i h3 h4 => ?_)
        rw [List.getElem_set]
        split
        · rename_i e; subst e; simp
        · rfl
      refine ⟨_, _, setBlock_at _ hlt, ?_, ?_, ?_, ?_, ?_⟩
      · rw [hes, List.map_set, hm, List.map_set]
      · have : (m.set j (k, v)).map Prod.fst = m.map Prod.fst := by
          rw [List.map_set]
          refine List.ext_getElem (by simp) (fun i h3 h4 => ?_)
          rw [List.getElem_set]
          split
          · rename_i e; subst e; rw [List.getElem_map, (List.getElem?_eq_some_iff.1 h2).2]
          · rfl
        rw [this]; exact hn
      · intro p hp
        rcases List.mem_or_eq_of_mem_set hp with hp | rfl
        · exact hr p hp
        · exact hkr
      · rw [hborn]; exact hbn
      · intro x hx
        rw [hes] at hx
        rcases List.mem_or_eq_of_mem_set hx with hx | rfl
        · exact hbc x hx
        · exact hbc es[j] (by simp)

/-- The same, with the entries' stamps. -/
def IMB (W : World) (b : Nat) (m : List (Int × Value)) (bs : List Nat) (clock : Nat) : Prop :=
  ∃ es, W.heap[b]? = some (.map es clock) ∧ es.toList.map (fun e => (e.key, e.val)) = m.map (fun p => (Value.int .i64 p.1, p.2)) ∧ (m.map Prod.fst).Nodup ∧ (∀ p ∈ m, -9223372036854775808 ≤ p.1 ∧ p.1 ≤ 9223372036854775807) ∧ bs.Nodup ∧ (∀ x ∈ bs, x < clock) ∧ es.toList.map (·.born) = bs
theorem IMB.im {W : World} {b clock : Nat} {m : List (Int × Value)} {bs : List Nat} (h : IMB W b m bs clock) : IM W b m := by
  obtain ⟨es, h1, h2, h3, h4, h5, h6, rfl⟩ := h
  exact ⟨es, clock, h1, h2, h3, h4, h5, fun x hx => h6 _ (List.mem_map.2 ⟨x, hx, rfl⟩)⟩
theorem IM.imb {W : World} {b : Nat} {m : List (Int × Value)} (h : IM W b m) : ∃ bs clock, IMB W b m bs clock := by
  obtain ⟨es, clock, h1, h2, h3, h4, h5, h6⟩ := h
  exact ⟨_, clock, es, h1, h2, h3, h4, h5, fun x hx => by obtain ⟨y, hy, rfl⟩ := List.mem_map.1 hx; exact h6 y hy, rfl⟩
theorem IMB.same {W W' : World} {b clock : Nat} {m : List (Int × Value)} {bs : List Nat} (h : IMB W b m bs clock) (hb : W'.heap[b]? = W.heap[b]?) : IMB W' b m bs clock := by
  obtain ⟨es, h1, h2⟩ := h
  exact ⟨es, hb.trans h1, h2⟩

theorem put_at {P : Program} {t kt et : TypeId} (ht : P.underlying t = some (.map kt et)) (hk : P.underlying kt = some (.int .i64)) {W : World} {b clock : Nat} {m : List (Int × Value)} {bs : List Nat} (h : IMB W b m bs clock) {j : Nat} {k : Int} {u : Value} (hj : m[j]? = some (k, u)) (v : Value) :
    ∃ W', (Instr.mapUpdate t (.map (some b)) (.int .i64 k) v).run P W = .ok () W' ∧ IMB W' b (m.set j (k, v)) bs clock ∧ (∀ base, KX b base W W') ∧ W'.heap.size = W.heap.size := by
  obtain ⟨es, hb, hm, hn, hr, hbn, hbc, rfl⟩ := h
  have hjl : j < m.length := (List.getElem?_eq_some_iff.1 hj).1
  have hje0 : m[j] = (k, u) := (List.getElem?_eq_some_iff.1 hj).2
  have hkr : -9223372036854775808 ≤ k ∧ k ≤ 9223372036854775807 := by have := hr m[j] (List.getElem_mem hjl); rwa [hje0] at this
  obtain ⟨lx, hlx⟩ := keyOf_i64 hk k hkr
  have hlt : b < W.heap.size := (Array.getElem?_eq_some_iff.1 hb).1
  rcases find_at hk W es m hm hr k hkr with ⟨_, h2⟩ | ⟨j', u', h1, h2⟩
  · exact absurd rfl (h2 (k, u) (List.mem_of_getElem? hj))
  · have hj' : j' < m.length := (List.getElem?_eq_some_iff.1 h2).1
    have hjj : j' = j := by
      rcases Nat.lt_trichotomy j' j with hl | hl | hl
      · exact absurd (by rw [List.getElem_map, List.getElem_map, hje0, (List.getElem?_eq_some_iff.1 h2).2]) (List.pairwise_iff_getElem.1 hn j' j (by simpa using hj') (by simpa using hjl) hl)
      · exact hl
      · exact absurd (by rw [List.getElem_map, List.getElem_map, hje0, (List.getElem?_eq_some_iff.1 h2).2]) (List.pairwise_iff_getElem.1 hn j j' (by simpa using hjl) (by simpa using hj') hl)
    subst hjj
    have hlen : es.toList.length = m.length := by have := congrArg List.length hm; simpa using this
    have hje : j' < es.toList.length := by omega
    have hjs : j' < es.size := by simpa using hje
    have hkey : es[j'].key = .int .i64 k := by
      have := congrArg (fun l => l[j']?) hm
      simp only [List.getElem?_map, List.getElem?_eq_getElem hje, h2, Option.map_some, Option.some.injEq] at this
      have e1 := congrArg Prod.fst this
      simpa using e1
    refine ⟨setBlock W b (.map (es.modify j' fun e => { e with key := .int .i64 k, val := v }) clock), ?_, ?_, setBlock_kx _, setBlock_size _ _ _⟩
    · have hst := (Maps.int_keyed hk).stays W hlx
      simp [Instr.mapUpdate, run_underlying ht, MapKept.run_getObj_map hb, (Maps.int_keyed hk).check W _ hlx, h1, hjs, hkey, hst, MapKept.run_setObj_map _ hb, Result.andThen, setBlock]
    · have hes : (es.modify j' fun e => { e with key := .int .i64 k, val := v }).toList = es.toList.set j' { es[j'] with key := .int .i64 k, val := v } := by
        rw [Array.toList_modify]
        refine List.ext_getElem (by simp) (fun i h3 h4 => ?_)
        rw [List.getElem_modify, List.getElem_set]
        split
        · rename_i e; subst e; simp
        · rfl
      have hborn : (es.modify j' fun e => { e with key := .int .i64 k, val := v }).toList.map (·.born) = es.toList.map (·.born) := by
        rw [hes, List.map_set]
        refine List.ext_getElem (by simp) (fun i h3 h4 => ?_)
        rw [List.getElem_set]
        split
        · rename_i e; subst e; simp
        · rfl
      refine ⟨_, setBlock_at _ hlt, ?_, ?_, ?_, hbn, hbc, hborn⟩
      · rw [hes, List.map_set, hm, List.map_set]
      · have : (m.set j' (k, v)).map Prod.fst = m.map Prod.fst := by
          rw [List.map_set]
          refine List.ext_getElem (by simp) (fun i h3 h4 => ?_)
          rw [List.getElem_set]
          split
          · rename_i e; subst e; rw [List.getElem_map, (List.getElem?_eq_some_iff.1 h2).2]
          · rfl
        rw [this]; exact hn
      · intro p hp
        rcases List.mem_or_eq_of_mem_set hp with hp | rfl
        · exact hr p hp
        · exact hkr

theorem delL_none {m : List (Int × Value)} {k : Int} (h : ∀ p ∈ m, p.1 ≠ k) : delL m k = m := by
  unfold delL
  rw [List.filter_eq_self]
  intro p hp
  simpa using h p hp
theorem delL_at {m : List (Int × Value)} : ∀ (_ : (m.map Prod.fst).Nodup) {j : Nat} {k : Int} {u : Value} (_ : m[j]? = some (k, u)), delL m k = m.eraseIdx j := by
  induction m with
  | nil => intro _ j k u h; simp at h
  | cons p m ih =>
    intro hn j k u h
    rw [List.map_cons, List.nodup_cons] at hn
    cases j with
    | zero =>
      simp only [List.getElem?_cons_zero, Option.some.injEq] at h
      subst h
      rw [List.eraseIdx_cons_zero]
      have : delL ((k, u) :: m) k = delL m k := by unfold delL; simp
      rw [this]
      exact delL_none (fun p hp e => hn.1 (List.mem_map.2 ⟨p, hp, e⟩))
    | succ j =>
      rw [List.getElem?_cons_succ] at h
      rw [List.eraseIdx_cons_succ, ← ih hn.2 h]
      have : (p.1 == k) = false := by
        simp only [beq_eq_false_iff_ne]
        intro e
        exact hn.1 (List.mem_map.2 ⟨(k, u), List.mem_of_getElem? h, e.symm⟩)
      unfold delL
      rw [List.filter_cons, this]
      rfl

theorem del_run {P : Program} {t kt et : TypeId} (ht : P.underlying t = some (.map kt et)) (hk : P.underlying kt = some (.int .i64)) {W : World} {b : Nat} {m : List (Int × Value)} (h : IM W b m) (k : Int) (hkr : -9223372036854775808 ≤ k ∧ k ≤ 9223372036854775807) (ty : TypeId) :
    ∃ W', (Builtin.delete_ #[t, kt] ty #[.map (some b), .int .i64 k]).run P W = .ok (.tuple #[]) W' ∧ IM W' b (delL m k) ∧ (∀ base, KX b base W W') ∧ W'.heap.size = W.heap.size := by
  obtain ⟨es, clock, hb, hm, hn, hr, hbn, hbc⟩ := h
  obtain ⟨lx, hlx⟩ := keyOf_i64 hk k hkr
  have hlt : b < W.heap.size := (Array.getElem?_eq_some_iff.1 hb).1
  rcases find_at hk W es m hm hr k hkr with ⟨h1, h2⟩ | ⟨j, u, h1, h2⟩
  · refine ⟨setBlock W b (.map es clock), ?_, ?_, setBlock_kx _, setBlock_size _ _ _⟩
    · simp [Builtin.delete_, run_underlying ht, MapKept.run_getObj_map hb, (Maps.int_keyed hk).check W _ hlx, h1, MapKept.run_setObj_map _ hb, Result.andThen, setBlock]
    · rw [delL_none h2]
      exact ⟨es, clock, setBlock_at _ hlt, hm, hn, hr, hbn, hbc⟩
  · have hj : j < m.length := (List.getElem?_eq_some_iff.1 h2).1
    have hlen : es.toList.length = m.length := by have := congrArg List.length hm; simpa using this
    have hjs : j < es.size := by rw [← hlen] at hj; simpa using hj
    have hes : (es.eraseIdxIfInBounds j).toList = es.toList.eraseIdx j := by simp
    refine ⟨setBlock W b (.map (es.eraseIdxIfInBounds j) clock), ?_, ?_, setBlock_kx _, setBlock_size _ _ _⟩
    · simp [Builtin.delete_, run_underlying ht, MapKept.run_getObj_map hb, (Maps.int_keyed hk).check W _ hlx, h1, MapKept.run_setObj_map _ hb, Result.andThen, setBlock]
    · rw [delL_at hn h2]
      refine ⟨_, _, setBlock_at _ hlt, ?_, ?_, ?_, ?_, ?_⟩
      · rw [hes, Go.ChangeMaps.map_eraseIdx, hm, Go.ChangeMaps.map_eraseIdx]
      · rw [Go.ChangeMaps.map_eraseIdx]; exact hn.sublist (List.eraseIdx_sublist _ _)
      · exact fun p hp => hr p (List.mem_of_mem_eraseIdx hp)
      · rw [hes, Go.ChangeMaps.map_eraseIdx]; exact hbn.sublist (List.eraseIdx_sublist _ _)
      · intro x hx
        rw [hes] at hx
        exact hbc x (List.mem_of_mem_eraseIdx hx)

/-- Block r is an iterator over the map in block b; the keys done have come out. -/
def IT (W : World) (r b : Nat) (m : List (Int × Value)) (done : List Int) : Prop :=
  ∃ bs clock since seen c0, IMB W b m bs clock ∧ W.heap[r]? = some (.mapIter (some b) since seen c0) ∧ (∀ x ∈ bs, x < since) ∧ since ≤ c0 ∧ since ≤ clock ∧ bs.length = m.length ∧ ∀ j (h : j < m.length) (h' : j < bs.length), (seen.contains bs[j] = true ↔ m[j].1 ∈ done)

theorem IT.im {W : World} {r b : Nat} {m : List (Int × Value)} {done : List Int} (h : IT W r b m done) : IM W b m := by
  obtain ⟨bs, clock, since, seen, c0, h1, _⟩ := h
  exact h1.im
theorem IT.lt {W : World} {r b : Nat} {m : List (Int × Value)} {done : List Int} (h : IT W r b m done) : r < W.heap.size := by
  obtain ⟨bs, clock, since, seen, c0, _, h2, _⟩ := h
  exact (Array.getElem?_eq_some_iff.1 h2).1
theorem IT.ne {W : World} {r b : Nat} {m : List (Int × Value)} {done : List Int} (h : IT W r b m done) : r ≠ b := by
  obtain ⟨bs, clock, since, seen, c0, ⟨es, h1, _⟩, h2, _⟩ := h
  rintro rfl
  rw [h1] at h2
  cases h2
theorem IT.same {W W' : World} {r b : Nat} {m : List (Int × Value)} {done : List Int} (h : IT W r b m done) (hr : W'.heap[r]? = W.heap[r]?) (hb : W'.heap[b]? = W.heap[b]?) : IT W' r b m done := by
  obtain ⟨bs, clock, since, seen, c0, h1, h2, h3⟩ := h
  exact ⟨bs, clock, since, seen, c0, h1.same hb, hr.trans h2, h3⟩

theorem range_run {P : Program} {t kt et : TypeId} (ht : P.underlying t = some (.map kt et)) {W : World} {b : Nat} {m : List (Int × Value)} (h : IM W b m) :
    ∃ o, (Instr.range t (.map (some b))).run P W = .ok (.pointer (some ⟨W.heap.size, 0, none⟩)) (W.alloc o) ∧ IT (W.alloc o) W.heap.size b m [] := by
  obtain ⟨bs, clock, h⟩ := h.imb
  have h0 := h
  obtain ⟨es, hb, hm, hn, hr, hbn, hbc, rfl⟩ := h
  refine ⟨_, run_range_map W t kt et b es clock ht hb, _, clock, clock, #[], clock, h0.same (heap_alloc_old W _ b (Array.getElem?_eq_some_iff.1 hb).1), World.alloc_heap_new W _, hbc, Nat.le_refl _, Nat.le_refl _, ?_, ?_⟩
  · have := congrArg List.length hm; simpa using this
  · intro j h1 h2
    simp

theorem next_run {P : Program} {W : World} {r b : Nat} {m : List (Int × Value)} {done : List Int} (h : IT W r b m done) (ty : TypeId) :
    ((∀ p ∈ m, p.1 ∈ done) ∧ (Instr.next (.pointer (some ⟨r, 0, none⟩)) false ty).run P W = .ok (.tuple #[.bool false]) W) ∨
    ∃ (j : Nat) (k : Int) (v : Value) (W' : World), m[j]? = some (k, v) ∧ k ∉ done ∧ (Instr.next (.pointer (some ⟨r, 0, none⟩)) false ty).run P W = .ok (.tuple #[.bool true, .int .i64 k, v]) W' ∧ IT W' r b m (k :: done) ∧ (∀ base, KX r base W W') ∧ W'.heap.size = W.heap.size ∧ (Instr.entry (.pointer (some ⟨r, 0, none⟩))).run P W' = .ok (.tuple #[.int .i64 k, v]) W' := by
  have hlt := h.lt
  have hne := h.ne
  obtain ⟨bs, clock, since, seen, c0, hI, hit, hs1, hs2, hs3, hbl, hd⟩ := h
  have hI0 := hI
  obtain ⟨es, hb, hm, hn, hr, hbn, hbc, rfl⟩ := hI
  have hlen : es.toList.length = m.length := by have := congrArg List.length hm; simpa using this
  have hat : ∀ j (h1 : j < es.toList.length) (h2 : j < m.length), es.toList[j].key = Value.int .i64 m[j].1 ∧ es.toList[j].val = m[j].2 := by
    intro j h1 h2
    have := congrArg (fun l => l[j]?) hm
    simp only [List.getElem?_map, List.getElem?_eq_getElem h1, List.getElem?_eq_getElem h2, Option.map_some, Option.some.injEq] at this
    exact ⟨congrArg Prod.fst this, congrArg Prod.snd this⟩
  have hold : ∀ x ∈ es.toList, x.born < since := fun x hx => hs1 _ (List.mem_map.2 ⟨x, hx, rfl⟩)
  rcases run_next_at (P := P) W ty r b since c0 seen es clock hit hb hold hs2 with ⟨h0, hrun⟩ | ⟨e, he, w1, hw1, hrun⟩
  · refine .inl ⟨fun p hp => ?_, hrun⟩
    obtain ⟨j, hj, rfl⟩ := List.mem_iff_getElem.1 hp
    refine (hd j hj (by simpa using (by omega : j < es.toList.length))).1 ?_
    rw [List.getElem_map]
    exact all_seen es seen h0 _ (List.getElem_mem _)
  · obtain ⟨hem, hes⟩ := mem_left he
    obtain ⟨j, hj, rfl⟩ := List.mem_iff_getElem.1 hem
    obtain ⟨e1, e2⟩ := hat j hj (by omega)
    rw [e1, e2] at hrun
    have hjm : j < m.length := by omega
    have hw1h : w1.heap = W.heap := by rcases hw1 with rfl | rfl <;> rfl
    have hkx : ∀ base, KX r base W (setBlock w1 r (.mapIter (some b) since (seen.push es.toList[j].born) clock)) := by
      intro base
      rcases hw1 with rfl | rfl
      · exact setBlock_kx _ _
      · exact (KX.of_below (below_drew (Below.refl _ _))).trans (setBlock_kx _ _)
    have hb' : (setBlock w1 r (.mapIter (some b) since (seen.push es.toList[j].born) clock)).heap[b]? = W.heap[b]? := (hkx (b + 1)).block b (by omega) (fun e => hne e.symm)
    have hr' : (setBlock w1 r (.mapIter (some b) since (seen.push es.toList[j].born) clock)).heap[r]? = some (.mapIter (some b) since (seen.push es.toList[j].born) clock) := setBlock_at _ (by rw [hw1h]; exact hlt)
    refine .inr ⟨j, m[j].1, m[j].2, _, List.getElem?_eq_getElem hjm, ?_, hrun, ?_, hkx, by rw [setBlock_size, hw1h], ?_⟩
    · intro hc
      have := (hd j hjm (by simpa using hj)).2 hc
      rw [List.getElem_map, hes] at this
      cases this
    · refine ⟨_, clock, since, _, clock, hI0.same hb', hr', hs1, hs3, hs3, hbl, ?_⟩
      · intro i h1 h2
        rw [contains_push, Bool.or_eq_true, hd i h1 h2, List.mem_cons, beq_iff_eq]
        have hij : ((es.toList.map (·.born))[i] = es.toList[j].born) ↔ m[i].1 = m[j].1 := by
          constructor
          · intro e
            have hee : i = j := by
              rcases Nat.lt_trichotomy i j with hl | hl | hl
              · exact absurd (by rw [e, List.getElem_map]) (List.pairwise_iff_getElem.1 hbn i j h2 (by simpa using hj) hl)
              · exact hl
              · exact absurd (by rw [e, List.getElem_map]) (List.pairwise_iff_getElem.1 hbn j i (by simpa using hj) h2 hl)
            subst hee
            rfl
          · intro e
            have hee : i = j := by
              rcases Nat.lt_trichotomy i j with hl | hl | hl
              · exact absurd (by rw [List.getElem_map, List.getElem_map, e]) (List.pairwise_iff_getElem.1 hn i j (by simpa using h1) (by simpa using hjm) hl)
              · exact hl
              · exact absurd (by rw [List.getElem_map, List.getElem_map, e]) (List.pairwise_iff_getElem.1 hn j i (by simpa using hjm) (by simpa using h1) hl)
            subst hee
            rw [List.getElem_map]
        rw [hij]
        exact Or.comm
    · have := run_entry_at (P := P) (setBlock w1 r (.mapIter (some b) since (seen.push es.toList[j].born) clock)) r b since seen es clock es.toList[j] hr' (hb'.trans hb) hem hbn
      rw [e1, e2] at this
      exact this

/-- A store at a key that is there, in the round of a range over the map. -/
theorem IT.put {P : Program} {t kt et : TypeId} (ht : P.underlying t = some (.map kt et)) (hk : P.underlying kt = some (.int .i64)) {W : World} {r b : Nat} {m : List (Int × Value)} {done : List Int} (h : IT W r b m done) {j : Nat} {k : Int} {u : Value} (hj : m[j]? = some (k, u)) (v : Value) :
    ∃ W', (Instr.mapUpdate t (.map (some b)) (.int .i64 k) v).run P W = .ok () W' ∧ IT W' r b (m.set j (k, v)) done ∧ (∀ base, KX b base W W') ∧ W'.heap.size = W.heap.size := by
  have hne := h.ne
  obtain ⟨bs, clock, since, seen, c0, hI, hit, hs1, hs2, hs3, hbl, hd⟩ := h
  obtain ⟨W', h1, h2, h3, h4⟩ := put_at ht hk hI hj v
  have hje := (List.getElem?_eq_some_iff.1 hj).2
  refine ⟨W', h1, ⟨bs, clock, since, seen, c0, h2, ((h3 (r + 1)).block r (by omega) hne).trans hit, hs1, hs2, hs3, by rw [List.length_set]; exact hbl, fun i hi hi' => ?_⟩, h3, h4⟩
  have hi2 : i < m.length := by rwa [List.length_set] at hi
  rw [hd i hi2 hi']
  have : (m.set j (k, v))[i].1 = m[i].1 := by
    rw [List.getElem_set]
    split
    · rename_i e; subst e; rw [hje]
    · rfl
  rw [this]

/-- How many keys have not come out. -/
def leftN (m : List (Int × Value)) (done : List Int) : Nat := (m.filter fun p => !done.contains p.1).length
theorem filter_len {α β : Type} (p : α → Bool) (q : β → Bool) : ∀ (l : List α) (m : List β), l.length = m.length → (∀ j (h : j < l.length) (h' : j < m.length), p l[j] = q m[j]) → (l.filter p).length = (m.filter q).length
  | [], [], _, _ => rfl
  | a :: l, b :: m, hl, h => by
    have h0 : p a = q b := h 0 (by simp) (by simp)
    have ih := filter_len p q l m (by simpa using hl) (fun j h1 h2 => h (j + 1) (by simpa using h1) (by simpa using h2))
    by_cases hq : q b = true
    · rw [List.filter_cons_of_pos (by rw [h0]; exact hq), List.filter_cons_of_pos hq, List.length_cons, List.length_cons, ih]
    · rw [List.filter_cons_of_neg (by rw [h0]; exact hq), List.filter_cons_of_neg hq, ih]
  | [], _ :: _, hl, _ => by simp at hl
  | _ :: _, [], hl, _ => by simp at hl
theorem IT.itLeft {W : World} {r b : Nat} {m : List (Int × Value)} {done : List Int} (h : IT W r b m done) : W.rangeLeft b r = leftN m done := by
  obtain ⟨bs, clock, since, seen, c0, ⟨es, h1, hm, hn, hr, hbn, hbc, rfl⟩, h2, hs1, hs2, hs3, hbl, hd⟩ := h
  have hlen : es.toList.length = m.length := by have := congrArg List.length hm; simpa using this
  simp only [World.rangeLeft, h1, h2]
  unfold leftOf leftN
  rw [← Array.length_toList, Array.toList_filter]
  refine filter_len _ _ _ _ hlen (fun j hj hj' => ?_)
  have := hd j hj' (by simpa using hj)
  rw [List.getElem_map] at this
  rw [Bool.eq_iff_iff]
  simp only [Bool.not_eq_true', Bool.eq_false_iff, ne_eq, this, List.contains_iff_mem]

end Go.Proofs.Ytjnbbmiccbjjbaa.MapI
