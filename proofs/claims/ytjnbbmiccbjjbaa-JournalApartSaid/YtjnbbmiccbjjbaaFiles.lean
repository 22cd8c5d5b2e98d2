/- Package disk: Files, Arm, On. -/
import Derived.Test.YtjnbbmiccbjjbaaCrP
import Derived.Test.YtjnbbmiccbjjbaaSh
import Derived.Shelf.AbstractIn
namespace Go.Proofs.Ytjnbbmiccbjjbaa.Disk
open Go.RowKit Go.Maps Go.Sort Go.Shelf Go.Proofs Go.Proofs.Ytjnbbmiccbjjbaa.Ma Go.Proofs.Ytjnbbmiccbjjbaa.Wire Go.Proofs.Ytjnbbmiccbjjbaa.Rdr Go.Proofs.Ytjnbbmiccbjjbaa.MapI Go.Proofs.YtjnbbmiccbjjbaaW.PrintWords Go.Proofs.YtjnbbmiccbjjbaaW.PrintLast

/-- How a map's value reads where only its keys are asked for. -/
def noRead (_ : Value) : Option (DataW Unit × List MemPlace) := some (.nil, [])

theorem im_owns {W : World} {b : Nat} {m : List (Int × Value)} (h : IM W b m) (hm : m.length ≤ maxLen) : ∃ D0 : DataW Unit, W.ownsMap Try.prog 3 noRead b m.length D0 ∧ (intKeys D0).Perm (m.map Prod.fst) ∧ Maps.size D0 = m.length := by
  obtain ⟨es, clock, hb, hes, hn, hr, hbn, hbc⟩ := h
  have hlen : es.toList.length = m.length := by have := congrArg List.length hes; simpa using this
  have hat : ∀ j (h1 : j < es.toList.length) (h2 : j < m.length), es.toList[j].key = Value.int .i64 m[j].1 ∧ es.toList[j].val = m[j].2 := by
    intro j h1 h2
    have := congrArg (fun l => l[j]?) hes
    simp only [List.getElem?_map, List.getElem?_eq_getElem h1, List.getElem?_eq_getElem h2, Option.map_some, Option.some.injEq] at this
    exact ⟨congrArg Prod.fst this, congrArg Prod.snd this⟩
  have hrd : ∀ j (h1 : j < es.toList.length) (h2 : j < m.length), Go.WideElems.rd (H := Unit) Try.prog 3 noRead es.toList[j] = some (.int .i64 m[j].1, .nil) := by
    intro j h1 h2
    have hk : keyOf Try.prog 3 es.toList[j].key = some (.int .i64 m[j].1) := by
      rw [(hat j h1 h2).1]
      refine Maps.keyOf_int_mk Try.underlying3 ?_
      simp only [Lit.wf, Bool.and_eq_true, decide_eq_true_eq]
      exact hr _ (List.getElem_mem h2)
    unfold Go.WideElems.rd
    rw [hk]
    rfl
  have hrg : es.toList.map (Go.WideElems.rg (H := Unit) Try.prog 3 noRead) = m.map (fun p => (Lit.int .i64 p.1, DataW.nil)) := by
    refine List.ext_getElem (by simpa using hlen) (fun j h1 h2 => ?_)
    rw [List.getElem_map, List.getElem_map]
    unfold Go.WideElems.rg
    rw [hrd j (by simpa using h1) (by simpa using h2)]
    rfl
  have hkeys : (es.toList.map (·.key)).Nodup := by
    have e : es.toList.map (·.key) = (m.map Prod.fst).map (Value.int .i64) := by
      have := congrArg (List.map Prod.fst) hes
      rw [List.map_map, List.map_map] at this
      rw [List.map_map]
      exact this
    rw [e]
    exact List.pairwise_map.2 (hn.imp (fun hne e => hne (by injection e)))
  refine ⟨_, ⟨es, clock, hb, ⟨by rw [← Array.length_toList, hlen]; exact hm, ⟨hbc, hbn, hkeys⟩, fun x hx => ?_⟩, by rw [← Array.length_toList, hlen]; exact Nat.le_refl _, rfl⟩, ?_, ?_⟩
  · obtain ⟨j, hj, rfl⟩ := List.mem_iff_getElem.1 hx
    exact ⟨_, hrd j hj (by omega)⟩
  · rw [hrg]
    show (((m.map fun p => (Lit.int .i64 p.1, DataW.nil)).foldr DataW.insert []).map fun p => Go.intOf p.1).Perm _
    refine ((Go.WideShapes.sorted_perm _).map _).trans ?_
    rw [List.map_map]
    exact List.Perm.of_eq (List.map_congr_left (fun p _ => rfl))
  · rw [hrg]
    show ((m.map fun p => (Lit.int .i64 p.1, DataW.nil)).foldr DataW.insert []).length = _
    rw [(Go.WideShapes.sorted_perm _).length_eq, List.length_map]

theorem sortsA (m : Nat) : AnyZI.SortsIn Try.prog Sh.sortedA_ren Fence.wide m :=
  ⟨fun blk off cap ss W hH hblk hsz => callsIn_wide.2 (AnyM.slices_Sort_int Sh.sortA blk off cap ss W hH hblk hsz),
   fun p cap W => callsIn_wide.2 (AnyM.slices_Sort_int_none Sh.sortA p cap W)⟩

theorem Fls.fst {W : World} {D : Nat → Prop} : ∀ {m : List (Int × Value)} {fs : List (Int × Fl)}, Fls W D m fs → m.map Prod.fst = fs.map Prod.fst
  | [], [], _ => rfl
  | (_, _) :: _, (_, _) :: _, ⟨h1, _, h5⟩ => by rw [List.map_cons, List.map_cons, Fls.fst h5, h1]
  | [], _ :: _, h => h.elim
  | _ :: _, [], h => h.elim

set_option maxRecDepth 100000 in
set_option maxHeartbeats 2000000 in
theorem files_calls (D : Nat → Prop) (B : Nat) (d : Dsk) (hl : d.fs.length ≤ 16777216) (w : World) (h : Dk w D B d) :
    Calls Try.prog 48 #[.pointer (some ⟨B, 0, none⟩)] w fun e w' => ∃ v, e = .returned v ∧ Kd.R (Kd.int .i64) 3 w' w.heap.size (fun _ => True) v (keysS d.fs) ∧ Below w.heap.size w w' := by
  obtain ⟨bm, m, h0, hm, hf, hD1, hD2, hD3⟩ := h
  have hml : m.length = d.fs.length := by have := congrArg List.length hf.fst; simpa using this
  obtain ⟨D0, hown, hperm, hsz⟩ := im_owns hm (by rw [hml]; unfold maxLen; omega)
  have hks : ∀ ss : List Int, ss.Perm (intKeys D0) → ss.mergeSort (fun x y => decide (x ≤ y)) = keysS d.fs := by
    intro ss hp
    have := mergeSort_of_perm_i (hp.trans (hperm.trans (by rw [hf.fst])) : ss.Perm (d.fs.map Prod.fst))
    exact this
  have c0 := cell_of h0 0
  refine (callsIn_wide (n := 6)).1 ?_
  have hbl := hown.lt
  have hseq : SeqGives Fence.wide 2 Try.prog 78 #[.pointer (some ⟨w.heap.size, 0, none⟩)] encZ (fun ss => ss.Perm (intKeys D0)) (Maps.size D0) (w.alloc (.cells #[.map (some bm)] 74)) :=
    AnyZI.keys_gives (ρ := Sh.keysB_ren) Sh.keysB Fence.wide _ trivial rfl (by omega) w.heap.size bm m.length D0 _ (by simp) (by simp) (by
      obtain ⟨es, clock, hb, Ft, hs, hD⟩ := hown
      exact ⟨es, clock, (Below.heap_alloc _ _ bm hbl).trans hb, Ft, hs, hD⟩)
  have cK : ∀ mb W, CallsIn Fence.wide 5 Try.prog 67 #[.map mb] W fun e w' => e = .returned (.func (.func 78) #[] #[.pointer (some ⟨W.heap.size, 0, none⟩)]) ∧ w' = W.alloc (.cells #[.map mb] 74) := fun mb W => AnyZI.keys_in Sh.keysA Fence.wide 5 trivial rfl mb W
  have cS := AnyZI.sorted_in Sh.sortedA Fence.wide 5 trivial trivial trivial trivial rfl (by omega) (sortsA _) (enters_of Try.func77 (by kernel_rfl) rfl) 78 #[.pointer (some ⟨w.heap.size, 0, none⟩)] trivial (enters_of Try.func78 (by kernel_rfl) rfl) _ _ (by rw [hsz, hml]; unfold maxLen; omega) (by rw [hsz, hml]; omega) _ hseq
  change CallsIn _ _ Try.prog 66 _ _ _ at cS
  have hfK : Fence.wide.fn 67 := trivial
  have hfS : Fence.wide.fn 66 := trivial
  clear hf hm hown
  refine callsIn_of_wp Try.func48 rfl trivial ?_ rfl
  simp only [Try.ntmps48, List.size_toArray, List.length_cons, List.length_nil, Nat.reduceAdd, Nat.reduceSub, Array.replicate_succ, Array.replicate_zero, List.push_toArray, List.append_toArray, List.nil_append, List.cons_append]
  gi_wp2_with (first
    | (gi_at_call 67; refine (cK _ _).mono ?_; rintro e w' ⟨rfl, rfl⟩)
    | (gi_at_call 66; refine cS.mono ?_; rintro e w' ⟨v, ss, rfl, hS, hrow, hnil, hb⟩))
  go_ret
  have hk := hks ss hS
  have hl2 : (keysS d.fs).length = ss.length := by rw [← hk, List.length_mergeSort]
  rw [hk] at hrow
  refine ⟨v, rfl, Kd.R_of_own (enc := Value.int .i64) (h1 := fun _ => rfl) ?_ (fun _ _ => trivial), ((Below.refl _ w).alloc (Nat.le_refl _) _).trans (hb.mono (by simp))⟩
  rw [hl2]
  exact ownsRow_base_a hrow (by simp)

/-- What Arm does. -/
def armD (d : Dsk) (n : Int) : Dsk := if d.off = true then d else { d with armed := decide (0 ≤ n), left := n }

set_option maxRecDepth 100000 in
set_option maxHeartbeats 2000000 in
theorem arm_calls (D : Nat → Prop) (B : Nat) (d : Dsk) (n : Int) (w : World) (h : Dk w D B d) :
    Calls Try.prog 30 #[.pointer (some ⟨B, 0, none⟩), .int .i64 n] w fun e w' => e = .returned (.tuple #[]) ∧ Dk w' D B (armD d n) ∧ KD D w w' := by
  have H := Lib.hid h
  have HN := Lib.hid h.noU8
  obtain ⟨bm, m, h0, hm, hf, hD1, hD2, hD3⟩ := h
  have c2 := cell_of h0 2
  unfold armD
  by_cases ho : d.off = true
  · rw [if_pos ho]
    rw [ho] at c2
    clear hm hf
    go_enter Try.func30, Try.ntmps30
    go_wp2
    go_end0
    exact ⟨rfl, H.out, KD.refl _ _⟩
  · rw [if_neg ho]
    have ho' : d.off = false := by simpa using ho
    rw [ho'] at c2
    have c3 := cell_of h0 3
    have f3 := frozen_of h0 3
    have HM := Lib.hid hm
    have HF := Lib.hid hf
    have H0 := Lib.hid h0
    by_cases hn : 0 ≤ n
    · have hd : decide (0 ≤ n) = true := decide_eq_true hn
      have s1 := heap_set h0 3 (.bool true)
      have g4 := cell_of s1 4
      have e4 := frozen_of s1 4
      have S2 := Lib.hid (heap_set s1 4 (.int .i64 n))
      rw [hd]
      clear hm hf h0 ho ho' s1
      go_enter Try.func30, Try.ntmps30
      go_wp2
      go_end0
      have hk : ∀ base, KX B base w ((w.setCell ⟨B, 3, none⟩ (.bool true)).setCell ⟨B, 4, none⟩ (.int .i64 n)) := fun base => (kx_set B base 3 w (.bool true)).trans (kx_set B base 4 _ (.int .i64 n))
      exact ⟨rfl, Dk.turn (d := d) rfl (by simpa using S2.out) H0.out HM.out HF.out hD1 hD2 hD3 hk, KD.of_kx (hk _) hD1 HN.out⟩
    · have hd : decide (0 ≤ n) = false := decide_eq_false hn
      have s1 := heap_set h0 3 (.bool false)
      have g4 := cell_of s1 4
      have e4 := frozen_of s1 4
      have S2 := Lib.hid (heap_set s1 4 (.int .i64 n))
      rw [hd]
      clear hm hf h0 ho ho' s1
      go_enter Try.func30, Try.ntmps30
      go_wp2
      go_end0
      have hk : ∀ base, KX B base w ((w.setCell ⟨B, 3, none⟩ (.bool false)).setCell ⟨B, 4, none⟩ (.int .i64 n)) := fun base => (kx_set B base 3 w (.bool false)).trans (kx_set B base 4 _ (.int .i64 n))
      exact ⟨rfl, Dk.turn (d := d) rfl (by simpa using S2.out) H0.out HM.out HF.out hD1 hD2 hD3 hk, KD.of_kx (hk _) hD1 HN.out⟩

set_option maxHeartbeats 1000000 in
theorem on_calls (D : Nat → Prop) (B : Nat) (d : Dsk) (w : World) (h : Dk w D B d) :
    Calls Try.prog 31 #[.pointer (some ⟨B, 0, none⟩)] w fun e w' => e = .returned (.bool (!d.off)) ∧ w = w' := by
  obtain ⟨bm, m, h0, hm, hf, hD1, hD2, hD3⟩ := h
  have c2 := cell_of h0 2
  obtain ⟨fs, room, off, armed, left⟩ := d
  simp only at *
  clear hm hf h0
  cases off
  all_goals
    go_enter Try.func31, Try.ntmps31
    go_wp2
    go_ret
    exact ⟨rfl, rfl⟩

end Go.Proofs.Ytjnbbmiccbjjbaa.Disk
