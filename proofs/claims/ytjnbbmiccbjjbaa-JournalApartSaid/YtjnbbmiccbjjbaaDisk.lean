/- Package disk: what its methods do. -/
import Derived.Test.YtjnbbmiccbjjbaaRdr
import Derived.Test.YtjnbbmiccbjjbaaMapI
import Derived.Deep.RegionWith
namespace Go.Proofs.Ytjnbbmiccbjjbaa.Disk
open Go.RowKit Go.Proofs Go.Proofs.Ytjnbbmiccbjjbaa.Ma Go.Proofs.Ytjnbbmiccbjjbaa.Wire Go.Proofs.Ytjnbbmiccbjjbaa.Rdr Go.Proofs.Ytjnbbmiccbjjbaa.MapI Go.Proofs.YtjnbbmiccbjjbaaW.PrintWords Go.Proofs.YtjnbbmiccbjjbaaW.PrintLast

/-- Bytes that lie in a block of bytes. -/
def Row8 (W : World) (D : Nat → Prop) (A : Option Addr) (bs : List Int) : Prop :=
  bs = [] ∨ ∃ g o cells, A = some ⟨g, o, none⟩ ∧ D g ∧ W.heap[g]? = some (.cells cells 5 (0, 0)) ∧ ∀ j x, bs[j]? = some x → cells[o + j]? = some (.int .u8 x)

theorem Row8.c {W : World} {D : Nat → Prop} {A : Option Addr} {bs : List Int} (h : Row8 W D A bs) (hl : bs.length ≤ 9223372036854775807) : Kd.C (Kd.int .u8) W A bs.length bs := by
  rcases h with rfl | ⟨g, o, cells, rfl, _, hb, hc⟩
  · refine ⟨rfl, by decide, fun h => absurd h (by simp)⟩
  · refine ⟨rfl, hl, fun _ => ⟨_, rfl, fun j p hj => ⟨[.int .u8 p], rfl, rfl, fun i u hi => ?_⟩⟩⟩
    match i, hi with
    | 0, hi =>
      simp only [List.getElem?_cons_zero, Option.some.injEq] at hi
      subst hi
      have := hc j p hj
      simp only [Kd.int, Kd.scalar, Nat.mul_one, Nat.add_zero]
      have e : (⟨g, o, none⟩ : Addr).add j = ⟨g, o + j, none⟩ := by
        unfold Addr.add
        by_cases h0 : j = 0 <;> simp [h0]
      rw [e]
      simp only [World.cell?, hb]
      exact this
theorem Row8.same {W W' : World} {D D' : Nat → Prop} {A : Option Addr} {bs : List Int} (h : Row8 W D A bs) (hD : ∀ k, D k → D' k) (hs : ∀ k, D k → ∀ cells, W.heap[k]? = some (.cells cells 5 (0, 0)) → W'.heap[k]? = W.heap[k]?) : Row8 W' D' A bs := by
  rcases h with h | ⟨g, o, cells, rfl, hg, hb, hc⟩
  · exact .inl h
  · exact .inr ⟨g, o, cells, rfl, hD g hg, (hs g hg cells hb).trans hb, hc⟩
theorem Row8.take {W : World} {D : Nat → Prop} {A : Option Addr} {bs : List Int} (h : Row8 W D A bs) (n : Nat) : Row8 W D A (bs.take n) := by
  rcases h with rfl | ⟨g, o, cells, rfl, hg, hb, hc⟩
  · exact .inl (by simp)
  · refine .inr ⟨g, o, cells, rfl, hg, hb, fun j x hj => hc j x ?_⟩
    rw [List.getElem?_take] at hj
    split at hj
    · exact hj
    · cases hj

/-- A file: its bytes, and how many are durable. -/
structure Fl where
  b : List Int
  dur : Int

/-- The map's values are the files. -/
def Fls (W : World) (D : Nat → Prop) : List (Int × Value) → List (Int × Fl) → Prop
  | [], [] => True
  | (k, v) :: m, (k', f) :: fs => k = k' ∧ (∃ A c, v = .agg #[.slice A f.b.length c, .int .i64 f.dur] ∧ f.b.length ≤ c ∧ Row8 W D A f.b) ∧ Fls W D m fs
  | _, _ => False

/-- What a disk is. -/
structure Dsk where
  fs : List (Int × Fl)
  room : Int
  off : Bool
  armed : Bool
  left : Int

/-- Block B is a disk, block bm its map; all of its blocks are in D. -/
def DkM (W : World) (D : Nat → Prop) (B bm : Nat) (m : List (Int × Value)) (d : Dsk) : Prop :=
  W.heap[B]? = some (.cells #[.map (some bm), .int .i64 d.room, .bool d.off, .bool d.armed, .int .i64 d.left] 76 (0, 0)) ∧ IM W bm m ∧ Fls W D m d.fs ∧ D B ∧ D bm ∧ ∀ k, D k → k < W.heap.size
def Dk (W : World) (D : Nat → Prop) (B : Nat) (d : Dsk) : Prop := ∃ bm m, DkM W D B bm m d

set_option maxHeartbeats 1000000 in
theorem exists_calls (n : Int) (w : World) : Calls Try.prog 43 #[.int .i64 n] w fun e w' => e = .returned (.bool (decide (0 ≤ n ∧ n < 64))) ∧ w = w' := by
  by_cases h1 : 0 ≤ n
  · by_cases h2 : n < 64
    · have hd : decide (0 ≤ n ∧ n < 64) = true := decide_eq_true ⟨h1, h2⟩
      rw [hd]
      clear hd
      go_enter Try.func43, Try.ntmps43
      go_wp2
      all_goals (first | (exfalso; omega) | (go_ret; exact ⟨rfl, rfl⟩))
    · have hd : decide (0 ≤ n ∧ n < 64) = false := decide_eq_false (fun h => h2 h.2)
      rw [hd]
      clear hd
      go_enter Try.func43, Try.ntmps43
      go_wp2
      all_goals (first | (exfalso; omega) | (go_ret; exact ⟨rfl, rfl⟩))
  · have hd : decide (0 ≤ n ∧ n < 64) = false := decide_eq_false (fun h => h1 h.1)
    rw [hd]
    clear hd
    go_enter Try.func43, Try.ntmps43
    go_wp2
    all_goals (first | (exfalso; omega) | (go_ret; exact ⟨rfl, rfl⟩))

theorem Fls.same {W W' : World} {D D' : Nat → Prop} : ∀ {m : List (Int × Value)} {fs : List (Int × Fl)}, Fls W D m fs → (∀ k, D k → D' k) → (∀ k, D k → ∀ cells, W.heap[k]? = some (.cells cells 5 (0, 0)) → W'.heap[k]? = W.heap[k]?) → Fls W' D' m fs
  | [], [], _, _, _ => trivial
  | (_, _) :: _, (_, _) :: _, ⟨h1, ⟨A, c, h2, h3, h4⟩, h5⟩, hD, hs => ⟨h1, ⟨A, c, h2, h3, h4.same hD hs⟩, Fls.same h5 hD hs⟩
  | [], _ :: _, h, _, _ => h.elim
  | _ :: _, [], h, _, _ => h.elim

/-- The disk's own block alone has changed. -/
theorem Dk.turn {W W' : World} {D : Nat → Prop} {B : Nat} {d d' : Dsk} {bm : Nat} {m : List (Int × Value)} (hfs : d'.fs = d.fs)
    (hB : W'.heap[B]? = some (.cells #[.map (some bm), .int .i64 d'.room, .bool d'.off, .bool d'.armed, .int .i64 d'.left] 76 (0, 0)))
    (h0 : W.heap[B]? = some (.cells #[.map (some bm), .int .i64 d.room, .bool d.off, .bool d.armed, .int .i64 d.left] 76 (0, 0)))
    (hm : IM W bm m) (hf : Fls W D m d.fs) (h1 : D B) (h2 : D bm) (h3 : ∀ k, D k → k < W.heap.size) (hk : ∀ base, KX B base W W') : Dk W' D B d' := by
  have hne : bm ≠ B := by
    obtain ⟨es, clock, hb, _⟩ := hm
    rintro rfl
    rw [h0] at hb
    cases hb
  refine ⟨bm, m, hB, hm.same ((hk (bm + 1)).block bm (by omega) hne), ?_, h1, h2, fun k hk' => Nat.lt_of_lt_of_le (h3 k hk') (hk 0).size⟩
  rw [hfs]
  refine hf.same (fun _ h => h) (fun k _ cells hc => (hk (k + 1)).block k (by omega) (fun e => ?_))
  subst e
  rw [h0] at hc
  injection hc with hc
  injection hc with _ hc
  cases hc

/-- What a step does: whether it succeeds, and the disk behind it. -/
def stepD (d : Dsk) : Bool × Dsk :=
  if d.armed = false then (true, d)
  else if d.left - 1 < 0 then (false, { d with left := d.left - 1, off := true, armed := false })
  else (!d.off, { d with left := d.left - 1 })

set_option maxRecDepth 100000 in
set_option maxHeartbeats 2000000 in
theorem step_calls (D : Nat → Prop) (B : Nat) (d : Dsk) (hl : d.armed = true → 0 ≤ d.left ∧ d.left ≤ 9223372036854775807) (w : World) (h : Dk w D B d) :
    Calls Try.prog 46 #[.pointer (some ⟨B, 0, none⟩)] w fun e w' => e = .returned (.bool (stepD d).1) ∧ Dk w' D B (stepD d).2 ∧ ∀ base, KX B base w w' := by
  obtain ⟨bm, m, h0, hm, hf, hD1, hD2, hD3⟩ := h
  have c2 := cell_of h0 2
  have c3 := cell_of h0 3
  have c4 := cell_of h0 4
  have f2 := frozen_of h0 2
  have f3 := frozen_of h0 3
  have f4 := frozen_of h0 4
  have H0 := Lib.hid h0
  have HM := Lib.hid hm
  have HF := Lib.hid hf
  clear hm hf
  unfold stepD
  obtain ⟨fs, room, off, armed, left⟩ := d
  simp only at *
  cases armed with
  | false =>
    rw [if_pos rfl]
    go_enter Try.func46, Try.ntmps46
    go_wp2
    go_ret
    exact ⟨rfl, ⟨bm, m, H0.out, HM.out, HF.out, hD1, hD2, hD3⟩, fun _ => KX.refl _ _ _⟩
  | true =>
    rw [if_neg (by simp)]
    obtain ⟨hl1, hl2⟩ := hl rfl
    have s1 := heap_set h0 4 (.int .i64 (left - 1))
    have d2 := cell_of s1 2
    have d3 := cell_of s1 3
    have d4 := cell_of s1 4
    have g2 := frozen_of s1 2
    have g3 := frozen_of s1 3
    by_cases hneg : left - 1 < 0
    · rw [if_pos hneg]
      have s2 := heap_set s1 2 (.bool true)
      have s3 := heap_set s2 3 (.bool false)
      have k2 := cell_of s3 2
      have S3 := Lib.hid s3
      clear s1 s2 s3
      go_enter Try.func46, Try.ntmps46
      go_wp2
      go_ret
      exact ⟨rfl, Dk.turn (d := ⟨fs, room, off, true, left⟩) rfl S3.out H0.out HM.out HF.out hD1 hD2 hD3 (fun _ => ((kx_set _ _ _ _ _).trans (kx_set _ _ _ _ _)).trans (kx_set _ _ _ _ _)), fun _ => ((kx_set _ _ _ _ _).trans (kx_set _ _ _ _ _)).trans (kx_set _ _ _ _ _)⟩
    · rw [if_neg hneg]
      have S1 := Lib.hid s1
      clear s1
      go_enter Try.func46, Try.ntmps46
      go_wp2
      go_ret
      exact ⟨rfl, Dk.turn (d := ⟨fs, room, off, true, left⟩) rfl S1.out H0.out HM.out HF.out hD1 hD2 hD3 (fun _ => kx_set _ _ _ _ _), fun _ => kx_set _ _ _ _ _⟩

/-- How many bytes all files have. -/
def usedL (fs : List (Int × Fl)) : Nat := (fs.map fun p => p.2.b.length).sum
def slen : Option Value → Nat
  | some (Value.slice _ n _) => n
  | _ => 0
def vlen : Value → Nat
  | .agg cs => slen cs[0]?
  | _ => 0
def sumDone (m : List (Int × Value)) (done : List Int) : Nat := ((m.filter fun p => done.contains p.1).map fun p => vlen p.2).sum
theorem sumDone_nil (m : List (Int × Value)) : sumDone m [] = 0 := by
  unfold sumDone
  rw [List.filter_eq_nil_iff.2 (fun p _ => by simp)]
  rfl
theorem sumDone_not {m : List (Int × Value)} {k : Int} {done : List Int} (h : ∀ p ∈ m, p.1 ≠ k) : sumDone m (k :: done) = sumDone m done := by
  unfold sumDone
  congr 2
  refine List.filter_congr (fun p hp => ?_)
  simp [h p hp]
theorem sumDone_step : ∀ {m : List (Int × Value)} (_ : (m.map Prod.fst).Nodup) {j : Nat} {k : Int} {v : Value} {done : List Int} (_ : m[j]? = some (k, v)) (_ : k ∉ done), sumDone m (k :: done) = sumDone m done + vlen v := by
  intro m
  induction m with
  | nil => intro _ j k v done h; simp at h
  | cons p m ih =>
    intro hn j k v done h hk
    rw [List.map_cons, List.nodup_cons] at hn
    cases j with
    | zero =>
      simp only [List.getElem?_cons_zero, Option.some.injEq] at h
      subst h
      have h1 := sumDone_not (done := done) (fun q hq (e : q.1 = k) => hn.1 (List.mem_map.2 ⟨q, hq, e⟩))
      unfold sumDone at h1 ⊢
      rw [List.filter_cons_of_pos (by simp), List.filter_cons_of_neg (by simpa using hk), List.map_cons, List.sum_cons, h1]
      exact Nat.add_comm _ _
    | succ j =>
      rw [List.getElem?_cons_succ] at h
      have h1 := ih hn.2 h hk
      have hpk : p.1 ≠ k := fun e => hn.1 (List.mem_map.2 ⟨(k, v), List.mem_of_getElem? h, e.symm⟩)
      unfold sumDone at h1 ⊢
      by_cases hd : p.1 ∈ done
      · rw [List.filter_cons_of_pos (by simp [hd]), List.filter_cons_of_pos (by simp [hd]), List.map_cons, List.map_cons, List.sum_cons, List.sum_cons, h1]
        omega
      · rw [List.filter_cons_of_neg (by simp [hd, hpk]), List.filter_cons_of_neg (by simp [hd]), h1]
theorem sumDone_all {m : List (Int × Value)} {done : List Int} (h : ∀ p ∈ m, p.1 ∈ done) : sumDone m done = (m.map fun p => vlen p.2).sum := by
  unfold sumDone
  rw [List.filter_eq_self.2 (fun p hp => by simpa using h p hp)]
theorem sumDone_le : ∀ (m : List (Int × Value)) (done : List Int), sumDone m done ≤ (m.map fun p => vlen p.2).sum
  | [], _ => Nat.le_refl _
  | p :: m, done => by
    have ih := sumDone_le m done
    unfold sumDone at ih ⊢
    by_cases hd : p.1 ∈ done
    · rw [List.filter_cons_of_pos (by simp [hd]), List.map_cons, List.map_cons, List.sum_cons, List.sum_cons]; omega
    · rw [List.filter_cons_of_neg (by simp [hd]), List.map_cons, List.sum_cons]; omega
theorem leftN_step {m : List (Int × Value)} {j : Nat} {k : Int} {v : Value} {done : List Int} (h : m[j]? = some (k, v)) (hk : k ∉ done) : leftN m (k :: done) < leftN m done := by
  unfold leftN
  have hm := List.mem_of_getElem? h
  clear h
  induction m with
  | nil => cases hm
  | cons p m ih =>
    have hle : (m.filter fun p => !(k :: done).contains p.1).length ≤ (m.filter fun p => !done.contains p.1).length := by
      refine List.Sublist.length_le ?_
      have e : (m.filter fun p => !(k :: done).contains p.1) = (m.filter fun p => !done.contains p.1).filter (fun p => !(p.1 == k)) := by
        rw [List.filter_filter]
        refine List.filter_congr (fun q _ => ?_)
        simp only [List.contains_cons, Bool.not_or]
      rw [e]
      exact List.filter_sublist
    rcases List.mem_cons.1 hm with rfl | hm
    · rw [List.filter_cons_of_neg (by simp), List.filter_cons_of_pos (by simpa using hk), List.length_cons]
      omega
    · have := ih hm
      by_cases h1 : p.1 ∈ done
      · rw [List.filter_cons_of_neg (by simp [h1]), List.filter_cons_of_neg (by simp [h1])]
        exact this
      · rw [List.filter_cons_of_pos (a := p) (p := fun p => !done.contains p.1) (by simpa using h1)]
        by_cases h2 : p.1 = k
        · rw [List.filter_cons_of_neg (by simp [h2]), List.length_cons]; omega
        · rw [List.filter_cons_of_pos (by simp [h1, h2]), List.length_cons, List.length_cons]; omega
theorem Fls.sum {W : World} {D : Nat → Prop} : ∀ {m : List (Int × Value)} {fs : List (Int × Fl)}, Fls W D m fs → (m.map fun p => vlen p.2).sum = usedL fs
  | [], [], _ => rfl
  | (_, _) :: _, (_, _) :: _, ⟨_, ⟨A, c, h2, _, _⟩, h5⟩ => by
    have := Fls.sum h5
    unfold usedL at this ⊢
    rw [List.map_cons, List.map_cons, List.sum_cons, List.sum_cons, this, h2]
    rfl
  | [], _ :: _, h => h.elim
  | _ :: _, [], h => h.elim
theorem Fls.val {W : World} {D : Nat → Prop} : ∀ {m : List (Int × Value)} {fs : List (Int × Fl)}, Fls W D m fs → ∀ p ∈ m, ∃ A n c d, p.2 = .agg #[.slice A n c, .int .i64 d]
  | (_, _) :: _, (_, _) :: _, ⟨_, ⟨A, c, h2, _, _⟩, h5⟩ => by
    intro p hp
    rcases List.mem_cons.1 hp with rfl | hp
    · exact ⟨A, _, c, _, h2⟩
    · exact Fls.val h5 p hp
  | [], _, _ => by intro p hp; cases hp
  | _ :: _, [], h => h.elim

set_option maxRecDepth 100000 in
set_option maxHeartbeats 2000000 in
theorem used_calls (D : Nat → Prop) (B : Nat) (d : Dsk) (hU : usedL d.fs ≤ 4611686018427387904) (w : World) (h : Dk w D B d) :
    Calls Try.prog 23 #[.pointer (some ⟨B, 0, none⟩)] w fun e w' => e = .returned (.int .i64 (usedL d.fs)) ∧ Below w.heap.size w w' := by
  obtain ⟨bm, m, h0, hm, hf, hD1, hD2, hD3⟩ := h
  have c0 := cell_of h0 0
  have hsum := hf.sum
  have hval := hf.val
  rw [← hsum] at hU ⊢
  obtain ⟨o, hrun, hit⟩ := range_run (P := Try.prog) Try.underlying74 hm
  have HIT := Lib.hid hit
  have HVAL := Lib.hid hval
  have hnd : (m.map Prod.fst).Nodup := by obtain ⟨es, clock, _, _, hn, _⟩ := hm; exact hn
  have HND := Lib.hid hnd
  clear hit hm hf hsum hval hnd h0
  go_enter Try.func23, Try.ntmps23
  go_wp2
  go_loopw [3] (fun n wr => ∃ done : List Int, n = .int .i64 (sumDone m done) ∧ IT wr w.heap.size bm m done ∧ Hid (sumDone m done ≤ (m.map fun p => vlen p.2).sum) ∧ Below w.heap.size w wr) (fun _ wr => wr.rangeLeft bm w.heap.size)
  case atStart => exact ⟨[], by rw [sumDone_nil]; rfl, HIT.out, Lib.hid (by rw [sumDone_nil]; exact Nat.zero_le _), (Below.refl _ _).alloc (Nat.le_refl _) _⟩
  case round =>
    obtain ⟨done, rfl, hit, hle, hB⟩ := hrel
    have hm0 := hit.itLeft
    have HM0 := Lib.hid hm0
    clear hm0
    rcases next_run (P := Try.prog) hit 0 with ⟨hall, hn⟩ | ⟨j, k, v, W', hj, hk, hn, hit', hkx, hsz, hen⟩
    · have hs := sumDone_all hall
      have HS := Lib.hid hs
      clear hs hall hit hle
      go_wp2
      go_ret
      exact ⟨congrArg (fun z : Nat => Ending.returned (Value.int .i64 (z : Int))) HS.out, hB⟩
    · obtain ⟨A, n, c, dr, hv⟩ := HVAL.out (k, v) (List.mem_of_getElem? hj)
      simp only at hv
      subst hv
      have hstep := sumDone_step HND.out hj hk
      have hle2 := sumDone_le m (k :: done)
      rw [hstep, show vlen (.agg #[.slice A n c, .int .i64 dr]) = n from rfl] at hle2
      rw [show vlen (.agg #[.slice A n c, .int .i64 dr]) = n from rfl] at hstep
      have hlt := leftN_step hj hk
      rw [← HM0.out] at hlt
      have HIT' := Lib.hid hit'
      have HKX := Lib.hid hkx
      have HST := Lib.hid hstep
      have HLT := Lib.hid hlt
      have hs1 : sumDone m done + n ≤ 4611686018427387904 := Nat.le_trans hle2 hU
      generalize sumDone m done = s at hs1 HST ⊢
      have hbm := hit'.im.lt
      have hrr := hit'.lt
      clear hit hit' hj hk hkx hstep hlt hle hle2
      go_wp2
      go_roundw
      case rel =>
        have hB' : Below w.heap.size w W' := hB.trans (HKX.out wr.heap.size |>.below hB.size (Nat.le_refl _))
        exact ⟨k :: done, by rw [HST.out]; congr 1, HIT'.out.same (heap_alloc_old W' _ w.heap.size hrr) (heap_alloc_old W' _ bm hbm), Lib.hid (sumDone_le m _), hB'.alloc hB'.size _⟩
      case measure =>
        rw [(HIT'.out.same (heap_alloc_old W' _ w.heap.size hrr) (heap_alloc_old W' _ bm hbm)).itLeft]
        exact HLT.out

theorem Fls.any {W : World} {D : Nat → Prop} (k : Int) : ∀ {m : List (Int × Value)} {fs : List (Int × Fl)}, Fls W D m fs → m.any (fun p => p.1 == k) = fs.any (fun p => p.1 == k)
  | [], [], _ => rfl
  | (_, _) :: _, (_, _) :: _, ⟨h1, _, h5⟩ => by rw [List.any_cons, List.any_cons, Fls.any k h5, h1]
  | [], _ :: _, h => h.elim
  | _ :: _, [], h => h.elim
theorem Fls.mapPut {W : World} {D : Nat → Prop} (k : Int) {v : Value} {f : Fl} (hv : ∃ A c, v = .agg #[.slice A f.b.length c, .int .i64 f.dur] ∧ f.b.length ≤ c ∧ Row8 W D A f.b) : ∀ {m : List (Int × Value)} {fs : List (Int × Fl)}, Fls W D m fs → Fls W D (m.map fun p => if p.1 == k then (k, v) else p) (fs.map fun p => if p.1 == k then (k, f) else p)
  | [], [], _ => trivial
  | (a, u) :: m, (a', g) :: fs, ⟨h1, h2, h5⟩ => by
    subst h1
    have ih := Fls.mapPut k hv h5
    rw [List.map_cons, List.map_cons]
    by_cases h : a = k
    · rw [if_pos (by simpa using h), if_pos (by simpa using h)]
      exact ⟨rfl, hv, ih⟩
    · rw [if_neg (by simpa using h), if_neg (by simpa using h)]
      exact ⟨rfl, h2, ih⟩
  | [], _ :: _, h => h.elim
  | _ :: _, [], h => h.elim
theorem Fls.snoc {W : World} {D : Nat → Prop} (k : Int) {v : Value} {f : Fl} (hv : ∃ A c, v = .agg #[.slice A f.b.length c, .int .i64 f.dur] ∧ f.b.length ≤ c ∧ Row8 W D A f.b) : ∀ {m : List (Int × Value)} {fs : List (Int × Fl)}, Fls W D m fs → Fls W D (m ++ [(k, v)]) (fs ++ [(k, f)])
  | [], [], _ => ⟨rfl, hv, trivial⟩
  | (_, _) :: _, (_, _) :: _, ⟨h1, h2, h5⟩ => ⟨h1, h2, Fls.snoc k hv h5⟩
  | [], _ :: _, h => h.elim
  | _ :: _, [], h => h.elim
theorem Fls.put {W : World} {D : Nat → Prop} {m : List (Int × Value)} {fs : List (Int × Fl)} (h : Fls W D m fs) (k : Int) {v : Value} {f : Fl} (hv : ∃ A c, v = .agg #[.slice A f.b.length c, .int .i64 f.dur] ∧ f.b.length ≤ c ∧ Row8 W D A f.b) : Fls W D (putL m k v) (putL fs k f) := by
  unfold putL
  rw [h.any k]
  split
  · exact h.mapPut k hv
  · exact h.snoc k hv
theorem Fls.del {W : World} {D : Nat → Prop} (k : Int) : ∀ {m : List (Int × Value)} {fs : List (Int × Fl)}, Fls W D m fs → Fls W D (delL m k) (delL fs k)
  | [], [], _ => trivial
  | (a, u) :: m, (a', g) :: fs, ⟨h1, h2, h5⟩ => by
    subst h1
    have ih := Fls.del k h5
    unfold delL at ih ⊢
    by_cases h : a = k
    · rw [List.filter_cons_of_neg (by simpa using h), List.filter_cons_of_neg (by simpa using h)]
      exact ih
    · rw [List.filter_cons_of_pos (by simpa using h), List.filter_cons_of_pos (by simpa using h)]
      exact ⟨rfl, h2, ih⟩
  | [], _ :: _, h => h.elim
  | _ :: _, [], h => h.elim

/-- The file at a number: none has no bytes. -/
def fileAt (fs : List (Int × Fl)) (k : Int) : Fl := ((fs.find? (fun p => p.1 == k)).map Prod.snd).getD ⟨[], 0⟩
theorem Fls.look {W : World} {D : Nat → Prop} (k : Int) : ∀ {m : List (Int × Value)} {fs : List (Int × Fl)}, Fls W D m fs → ∃ A c, lookL m k (.agg #[.slice none 0 0, .int .i64 0]) = .agg #[.slice A (fileAt fs k).b.length c, .int .i64 (fileAt fs k).dur] ∧ (fileAt fs k).b.length ≤ c ∧ Row8 W D A (fileAt fs k).b
  | [], [], _ => ⟨none, 0, rfl, Nat.le_refl _, .inl rfl⟩
  | (a, u) :: m, (a', g) :: fs, ⟨h1, ⟨A, c, h2, h3, h4⟩, h5⟩ => by
    subst h1
    have ih := Fls.look k h5
    unfold lookL fileAt at ih ⊢
    rw [List.find?_cons, List.find?_cons]
    by_cases h : a = k
    · have hb : (a == k) = true := by simpa using h
      rw [hb]
      exact ⟨A, c, h2, h3, h4⟩
    · have hb : (a == k) = false := by simpa using h
      rw [hb]
      exact ih
  | [], _ :: _, h => h.elim
  | _ :: _, [], h => h.elim

/-- The files behind a set. -/
def setF (fs : List (Int × Fl)) (k : Int) (f : Fl) : List (Int × Fl) := if f.b.length = 0 then delL (putL fs k f) k else putL fs k f

/-- What a disk's method leaves: only D's blocks, and new ones, are others. -/
structure KD (D : Nat → Prop) (W W' : World) : Prop where
  os : W'.os = W.os
  tape : W'.tape = W.tape
  output : W'.output = W.output
  size : W.heap.size ≤ W'.heap.size
  block : ∀ k, k < W.heap.size → ¬ D k → W'.heap[k]? = W.heap[k]?
  bytes : ∀ (k : Nat) (cells : Array Value), W.heap[k]? = some (Obj.cells cells 5 (0, 0)) → W'.heap[k]? = W.heap[k]?
theorem KD.of_below {D : Nat → Prop} {W W' : World} (h : Below W.heap.size W W') : KD D W W' := ⟨h.os, h.tape, h.output, h.size, fun k hk _ => h.block k hk, fun k _ e => h.block k (lt_of e)⟩
/-- The block is none of bytes. -/
def NoU8 (W : World) (B : Nat) : Prop := ∀ cells : Array Value, W.heap[B]? ≠ some (Obj.cells cells 5 (0, 0))
theorem NoU8.of {W : World} {B : Nat} {o : Obj} (h : W.heap[B]? = some o) (ho : ∀ cells : Array Value, o ≠ Obj.cells cells 5 (0, 0)) : NoU8 W B := fun cells e => ho cells (by rw [h] at e; exact Option.some.inj e)
theorem NoU8.cells {W : World} {B t : Nat} {cs : Array Value} {fr : Nat × Nat} (h : W.heap[B]? = some (.cells cs t fr)) (ht : t ≠ 5) : NoU8 W B := NoU8.of h (fun cells e => by injection e with _ e; exact ht e)
theorem NoU8.im {W : World} {b : Nat} {m : List (Int × Value)} (h : IM W b m) : NoU8 W b := by
  obtain ⟨es, clock, hb, _⟩ := h
  exact NoU8.of hb (fun cells e => by cases e)
theorem KD.of_kx {D : Nat → Prop} {B : Nat} {W W' : World} (h : KX B W.heap.size W W') (hB : D B) (hu : NoU8 W B) : KD D W W' := ⟨h.os, h.tape, h.output, h.size, fun k hk hn => h.block k hk (fun e => hn (e ▸ hB)), fun k cells e => h.block k (lt_of e) (fun e1 => hu cells (e1 ▸ e))⟩
theorem KD.trans {D : Nat → Prop} {W1 W2 W3 : World} (h : KD D W1 W2) (k : KD D W2 W3) : KD D W1 W3 :=
  ⟨k.os.trans h.os, k.tape.trans h.tape, k.output.trans h.output, Nat.le_trans h.size k.size, fun i hi hn => (k.block i (Nat.lt_of_lt_of_le hi h.size) hn).trans (h.block i hi hn), fun i cells e => (k.bytes i cells ((h.bytes i cells e).trans e)).trans (h.bytes i cells e)⟩

set_option maxRecDepth 100000 in
set_option maxHeartbeats 2000000 in
/-- The map behind a set. -/
def setMM (m : List (Int × Value)) (k : Int) (v : Value) (n : Nat) : List (Int × Value) := if n = 0 then delL (putL m k v) k else putL m k v

set_option maxRecDepth 100000 in
set_option maxHeartbeats 2000000 in
theorem set_callsM (D : Nat → Prop) (B bm : Nat) (m : List (Int × Value)) (d : Dsk) (k : Int) (hk : -9223372036854775808 ≤ k ∧ k ≤ 9223372036854775807) (A : Option Addr) (c : Nat) (f : Fl) (hc : f.b.length ≤ c) (w : World) (h : DkM w D B bm m d) (hr : Row8 w D A f.b) :
    Calls Try.prog 45 #[.pointer (some ⟨B, 0, none⟩), .int .i64 k, .agg #[.slice A f.b.length c, .int .i64 f.dur]] w fun e w' => e = .returned (.tuple #[]) ∧ DkM w' D B bm (setMM m k (.agg #[.slice A f.b.length c, .int .i64 f.dur]) f.b.length) { d with fs := setF d.fs k f } ∧ KD D w w' := by
  obtain ⟨h0, hm, hf, hD1, hD2, hD3⟩ := h
  have hlt := lt_of h0
  have h0a : (w.alloc (.cells #[.slice A f.b.length c, .int .i64 f.dur] 79)).heap[B]? = w.heap[B]? := heap_alloc_old w _ B hlt
  have hma := hm.same (heap_alloc_old w (.cells #[.slice A f.b.length c, .int .i64 f.dur] 79) bm hm.lt)
  have hfile := World.alloc_heap_new w (.cells #[.slice A f.b.length c, .int .i64 f.dur] 79)
  have hsz : (w.alloc (.cells #[.slice A f.b.length c, .int .i64 f.dur] 79)).heap.size = w.heap.size + 1 := by simp
  have cB := cell_of (h0a.trans h0) 0
  have cF0 := cell_of hfile 0
  have cF1 := cell_of hfile 1
  have hmd : IM (w.alloc (.cells #[.slice A f.b.length c, .int .i64 f.dur] 79)).drew bm m := hma.same rfl
  obtain ⟨W2, hput, hIM2, hkx2, hsz2⟩ := put_run (P := Try.prog) Try.underlying74 Try.underlying3 hmd k (.agg #[.slice A f.b.length c, .int .i64 f.dur]) hk
  have HIM2 := Lib.hid hIM2
  have HKX2 := Lib.hid hkx2
  have HMD := Lib.hid hmd
  clear hIM2 hkx2 hma hmd
  have hbl := hm.lt
  have hbB : bm ≠ B := by
    obtain ⟨es, clock, hb, _⟩ := hm
    rintro rfl
    rw [h0] at hb
    cases hb
  have hB2 := ((HKX2.out (B + 1)).block B (by omega) (fun e => hbB e.symm)).trans (h0a.trans h0)
  have hF2 := ((HKX2.out (w.heap.size + 1)).block w.heap.size (by omega) (by omega)).trans hfile
  have hFl2 : Fls W2 (fun k => D k) (putL m k (.agg #[.slice A f.b.length c, .int .i64 f.dur])) (putL d.fs k f) := by
    refine (hf.put k ⟨A, c, rfl, hc, hr⟩).same (fun _ h => h) (fun g hg cells hcl => ?_)
    refine ((HKX2.out (g + 1)).block g (by omega) (fun e => ?_)).trans (heap_alloc_old w _ g (hD3 g hg))
    subst e
    obtain ⟨es, clock, hb, _⟩ := hm
    rw [hb] at hcl
    cases hcl
  have hW2 : KD D w W2 := (KD.of_below ((Below.refl _ w).alloc (Nat.le_refl _) _)).trans ((KD.of_below (below_drew (Below.refl _ _))).trans (KD.of_kx (HKX2.out _) hD2 (NoU8.im HMD.out)))
  have d0 := cell_of hB2 0
  have e0 := cell_of hF2 0
  have HB2 := Lib.hid hB2
  have HF2 := Lib.hid hFl2
  obtain ⟨W3, hdel, hIM3, hkx3, hsz3⟩ := del_run (P := Try.prog) Try.underlying74 Try.underlying3 HIM2.out k hk 0
  have hB3 := ((hkx3 (B + 1)).block B (by omega) (fun e => hbB e.symm)).trans hB2
  have hFl3 : Fls W3 (fun k => D k) (delL (putL m k (.agg #[.slice A f.b.length c, .int .i64 f.dur])) k) (delL (putL d.fs k f) k) := by
    refine (hFl2.del k).same (fun _ h => h) (fun g hg cells hcl => ?_)
    refine (hkx3 (g + 1)).block g (by omega) (fun e => ?_)
    subst e
    obtain ⟨es, clock, hb, _⟩ := HIM2.out
    rw [hb] at hcl
    cases hcl
  have HB3 := Lib.hid hB3
  have HF3 := Lib.hid hFl3
  have HIM3 := Lib.hid hIM3
  have HKX3 := Lib.hid hkx3
  clear hB2 hF2 hFl2 hB3 hFl3 hIM3 hkx3 hfile h0 h0a hf hr hm
  have hsz2' : w.heap.size ≤ W2.heap.size := hW2.size
  have HG2 := Lib.hid (fun g (hg : D g) => Nat.lt_of_lt_of_le (hD3 g hg) hsz2')
  have HG3 := Lib.hid (fun g (hg : D g) => Nat.lt_of_lt_of_le (hD3 g hg) (Nat.le_trans hsz2' (Nat.le_of_eq hsz3.symm)))
  clear hsz2' hsz2 hsz3 hD3
  unfold setF setMM
  by_cases hz : f.b.length = 0
  · rw [if_pos hz, if_pos hz]
    have hzb : ((f.b.length : Int) == 0) = true := by simp [hz]
    clear hz
    go_enter Try.func45, Try.ntmps45
    go_wp2
    go_region_with (fail)
    all_goals
      go_wp2
      go_end0
      exact ⟨rfl, ⟨HB3.out, HIM3.out, HF3.out, hD1, hD2, HG3.out⟩, hW2.trans (KD.of_kx (HKX3.out _) hD2 (NoU8.im HIM2.out))⟩
  · rw [if_neg hz, if_neg hz]
    have hzb : ((f.b.length : Int) == 0) = false := beq_eq_false_iff_ne.2 (by omega)
    clear hz
    go_enter Try.func45, Try.ntmps45
    go_wp2
    go_region_with (fail)
    all_goals
      go_wp2
      go_end0
      exact ⟨rfl, ⟨HB2.out, HIM2.out, HF2.out, hD1, hD2, HG2.out⟩, hW2⟩

theorem set_calls (D : Nat → Prop) (B : Nat) (d : Dsk) (k : Int) (hk : -9223372036854775808 ≤ k ∧ k ≤ 9223372036854775807) (A : Option Addr) (c : Nat) (f : Fl) (hc : f.b.length ≤ c) (w : World) (h : Dk w D B d) (hr : Row8 w D A f.b) :
    Calls Try.prog 45 #[.pointer (some ⟨B, 0, none⟩), .int .i64 k, .agg #[.slice A f.b.length c, .int .i64 f.dur]] w fun e w' => e = .returned (.tuple #[]) ∧ Dk w' D B { d with fs := setF d.fs k f } ∧ KD D w w' := by
  obtain ⟨bm, m, h⟩ := h
  refine (set_callsM D B bm m d k hk A c f hc w h hr).mono ?_
  rintro e w' ⟨rfl, h1, h2⟩
  exact ⟨rfl, ⟨bm, _, h1⟩, h2⟩

/-- A file all of whose bytes are durable. -/
def hardV : Value → Value
  | .agg cs => .agg #[(cs[0]?).getD (.slice none 0 0), .int .i64 (slen cs[0]? : Nat)]
  | v => v
def hardF (f : Fl) : Fl := ⟨f.b, (f.b.length : Int)⟩
/-- The map, the files that have come out being durable. -/
def hardL (m : List (Int × Value)) (done : List Int) : List (Int × Value) := m.map fun p => if done.contains p.1 then (p.1, hardV p.2) else p
theorem hardL_nil (m : List (Int × Value)) : hardL m [] = m := by
  unfold hardL
  conv => rhs; rw [← List.map_id m]
  exact List.map_congr_left (fun p _ => by simp)
theorem hardL_at {m : List (Int × Value)} {done : List Int} {j : Nat} {k : Int} {v : Value} (h : (hardL m done)[j]? = some (k, v)) (hk : k ∉ done) : m[j]? = some (k, v) := by
  unfold hardL at h
  rw [List.getElem?_map] at h
  cases hm : m[j]? with
  | none => rw [hm] at h; cases h
  | some p =>
    rw [hm] at h
    simp only [Option.map_some, Option.some.injEq] at h
    by_cases hp : p.1 ∈ done
    · rw [if_pos (by simpa using hp)] at h
      have e : p.1 = k := congrArg Prod.fst h
      exact absurd (e ▸ hp) hk
    · rw [if_neg (by simpa using hp)] at h
      rw [h]
theorem hardL_step {m : List (Int × Value)} (hn : (m.map Prod.fst).Nodup) {done : List Int} {j : Nat} {k : Int} {v : Value} (h : m[j]? = some (k, v)) : (hardL m done).set j (k, hardV v) = hardL m (k :: done) := by
  have hj : j < m.length := (List.getElem?_eq_some_iff.1 h).1
  have hje : m[j] = (k, v) := (List.getElem?_eq_some_iff.1 h).2
  refine List.ext_getElem (by simp [hardL]) (fun i h1 h2 => ?_)
  rw [List.getElem_set]
  have hi : i < m.length := by simpa [hardL] using h2
  by_cases hij : j = i
  · subst hij
    rw [if_pos rfl]
    simp [hardL, hje]
  · rw [if_neg hij]
    have hne : m[i].1 ≠ k := by
      intro e
      have h3 := List.pairwise_iff_getElem.1 hn
      rcases Nat.lt_or_gt_of_ne hij with hl | hl
      · exact h3 j i (by simpa using hj) (by simpa using hi) hl (by rw [List.getElem_map, List.getElem_map, hje, e])
      · exact h3 i j (by simpa using hi) (by simpa using hj) hl (by rw [List.getElem_map, List.getElem_map, hje, e])
    simp [hardL, hne]
theorem hardL_all {m : List (Int × Value)} {done : List Int} (h : ∀ p ∈ hardL m done, p.1 ∈ done) : hardL m done = m.map fun p => (p.1, hardV p.2) := by
  unfold hardL at h ⊢
  refine List.map_congr_left (fun p hp => ?_)
  by_cases hd : p.1 ∈ done
  · rw [if_pos (by simpa using hd)]
  · have := h p (List.mem_map.2 ⟨p, hp, by rw [if_neg (by simpa using hd)]⟩)
    exact absurd this hd
theorem hardL_fst (m : List (Int × Value)) (done : List Int) : (hardL m done).map Prod.fst = m.map Prod.fst := by
  unfold hardL
  rw [List.map_map]
  exact List.map_congr_left (fun p _ => by simp only [Function.comp]; split <;> rfl)
theorem Fls.hard {W : World} {D : Nat → Prop} : ∀ {m : List (Int × Value)} {fs : List (Int × Fl)}, Fls W D m fs → Fls W D (m.map fun p => (p.1, hardV p.2)) (fs.map fun p => (p.1, hardF p.2))
  | [], [], _ => trivial
  | (_, _) :: _, (_, _) :: _, ⟨h1, ⟨A, c, h2, h3, h4⟩, h5⟩ => by
    subst h2
    exact ⟨h1, ⟨A, c, rfl, h3, h4⟩, Fls.hard h5⟩
  | [], _ :: _, h => h.elim
  | _ :: _, [], h => h.elim

set_option maxRecDepth 100000 in
set_option maxHeartbeats 4000000 in
theorem harden_calls (D : Nat → Prop) (B : Nat) (d : Dsk) (w : World) (h : Dk w D B d) :
    Calls Try.prog 47 #[.pointer (some ⟨B, 0, none⟩)] w fun e w' => e = .returned (.tuple #[]) ∧ Dk w' D B { d with fs := d.fs.map fun p => (p.1, hardF p.2) } ∧ KD D w w' := by
  obtain ⟨bm, m, h0, hm, hf, hD1, hD2, hD3⟩ := h
  have c0 := cell_of h0 0
  have hlB := lt_of h0
  have hval := hf.val
  have hnd : (m.map Prod.fst).Nodup := by obtain ⟨es, clock, _, _, hn, _⟩ := hm; exact hn
  obtain ⟨o, hrun, hit⟩ := range_run (P := Try.prog) Try.underlying74 hm
  have hbB : bm ≠ B := by
    obtain ⟨es, clock, hb, _⟩ := hm
    rintro rfl
    rw [h0] at hb
    cases hb
  have hbl := hm.lt
  have HIT := Lib.hid hit
  have HVAL := Lib.hid hval
  have HND := Lib.hid hnd
  have H0 := Lib.hid h0
  have HF := Lib.hid hf
  have HM := Lib.hid hm
  clear hit hm hf hval hnd h0
  go_enter Try.func47, Try.ntmps47
  go_wp2
  go_loopw [2] (fun _ wr => ∃ done : List Int, IT wr w.heap.size bm (hardL m done) done ∧ KX bm w.heap.size w wr) (fun _ wr => wr.rangeLeft bm w.heap.size)
  case atStart => exact ⟨[], by rw [hardL_nil]; exact HIT.out, KX.of_below ((Below.refl _ _).alloc (Nat.le_refl _) _)⟩
  case round =>
    obtain ⟨done, hit, hkx⟩ := hrel
    have hm0 := hit.itLeft
    have HM0 := Lib.hid hm0
    clear hm0
    rcases next_run (P := Try.prog) hit 0 with ⟨hall, hn⟩ | ⟨j, k, v, W', hj, hk, hn, hit', hkx', hsz, hen⟩
    · have hs := hardL_all hall
      have him := hit.im
      rw [hs] at him
      have HIM := Lib.hid him
      have HKX := Lib.hid hkx
      clear hs hall hit him hkx
      go_wp2
      go_end0
      refine ⟨rfl, ⟨bm, _, (HKX.out.block B hlB (fun e => hbB e.symm)).trans H0.out, HIM.out, ?_, hD1, hD2, fun g hg => Nat.lt_of_lt_of_le (hD3 g hg) HKX.out.size⟩, KD.of_kx HKX.out hD2 (NoU8.im HM.out)⟩
      refine HF.out.hard.same (fun _ h => h) (fun g hg cells hcl => HKX.out.block g (hD3 g hg) (fun e => ?_))
      subst e
      obtain ⟨es, clock, hb, _⟩ := HM.out
      rw [hb] at hcl
      cases hcl
    · have hj0 := hardL_at hj hk
      obtain ⟨A, n, c, dr, hv⟩ := HVAL.out (k, v) (List.mem_of_getElem? hj0)
      simp only at hv
      subst hv
      have hst := hardL_step HND.out (done := done) hj0
      have hlt : leftN (hardL m done) (k :: done) < leftN (hardL m done) done := leftN_step hj hk
      have hstv : hardV (.agg #[.slice A n c, .int .i64 dr]) = .agg #[.slice A n c, .int .i64 (n : Int)] := rfl
      rw [hstv] at hst
      rw [← HM0.out] at hlt
      have hrW : w.heap.size < W'.heap.size := hit'.lt
      have hbW : bm < W'.heap.size := hit'.im.lt
      have hitA : IT (W'.alloc (.cells #[.slice A n c, .int .i64 dr] 79)).drew w.heap.size bm (hardL m done) (k :: done) := hit'.same (heap_alloc_old W' _ w.heap.size hrW) (heap_alloc_old W' _ bm hbW)
      obtain ⟨W2, hput, hit2, hkx2, hsz2⟩ := IT.put (P := Try.prog) Try.underlying74 Try.underlying3 hitA hj (.agg #[.slice A n c, .int .i64 (n : Int)])
      rw [hst] at hit2
      have hkxA : KX bm w.heap.size w W' := by
        refine hkx.trans ⟨(hkx' 0).os, (hkx' 0).tape, (hkx' 0).output, (hkx' 0).size, fun g hg _ => (hkx' (g + 1)).block g (by omega) (by omega)⟩
      have hBW : W'.heap[B]? = _ := (hkxA.block B hlB (fun e => hbB e.symm)).trans H0.out
      have hlBW := lt_of hBW
      have cB := cell_of ((heap_alloc_old W' (.cells #[.slice A n c, .int .i64 dr] 79) B hlBW).trans hBW) 0
      have hfile := World.alloc_heap_new W' (.cells #[.slice A n c, .int .i64 dr] 79)
      have cF0 := cell_of hfile 0
      have cF1 := cell_of hfile 1
      have hkxB : KX bm w.heap.size w W2 := by
        refine hkxA.trans ((KX.of_below (((Below.refl _ W').alloc (Nat.le_refl _) _).mono hkxA.size)).trans ((KX.of_below (below_drew (Below.refl _ _))).trans (hkx2 _)))
      have hl2 := hit2.itLeft
      have hlf : leftN (hardL m (k :: done)) (k :: done) = leftN (hardL m done) (k :: done) := by
        unfold leftN
        refine filter_len _ _ _ _ (by simp [hardL]) (fun i h1 h2 => ?_)
        have e1 : ∀ dn (h : i < (hardL m dn).length), (hardL m dn)[i].1 = (m[i]'(by simpa [hardL] using h)).1 := by
          intro dn h
          simp only [hardL, List.getElem_map]
          split <;> rfl
        rw [e1, e1]
      rw [hlf] at hl2
      have HIT2 := Lib.hid hit2
      have HKXB := Lib.hid hkxB
      have HL2 := Lib.hid hl2
      have HLT := Lib.hid hlt
      clear hit hit' hitA hit2 hkx hkx' hkx2 hkxA hkxB hl2 hlf hlt hj hk hj0 hst hstv hfile hBW
      go_wp2
      go_region_with (fail)
      all_goals
        go_wp2
        go_roundw
        case rel => exact ⟨k :: done, HIT2.out, HKXB.out⟩
        case measure => rw [HL2.out]; exact HLT.out

theorem Dk.noU8 {W : World} {D : Nat → Prop} {B : Nat} {d : Dsk} (h : Dk W D B d) : NoU8 W B := by
  obtain ⟨bm, m, h0, _⟩ := h
  exact NoU8.cells h0 (by decide)

/-- What Sync does. -/
def syncD (d : Dsk) : Int × Dsk :=
  if d.off = true then (24, d)
  else if (stepD d).1 = true then (0, { (stepD d).2 with fs := (stepD d).2.fs.map fun p => (p.1, hardF p.2) })
  else (24, (stepD d).2)

set_option maxRecDepth 100000 in
set_option maxHeartbeats 2000000 in
theorem sync_calls (D : Nat → Prop) (B : Nat) (d : Dsk) (hl : d.armed = true → 0 ≤ d.left ∧ d.left ≤ 9223372036854775807) (w : World) (h : Dk w D B d) :
    Calls Try.prog 17 #[.pointer (some ⟨B, 0, none⟩)] w fun e w' => e = .returned (.int .i64 (syncD d).1) ∧ Dk w' D B (syncD d).2 ∧ KD D w w' := by
  have HST := Lib.hid (step_calls D B d hl w h)
  have H := Lib.hid h
  obtain ⟨bm, m, h0, _, _, hD1, _, _⟩ := h
  have c2 := cell_of h0 2
  unfold syncD
  by_cases ho : d.off = true
  · rw [if_pos ho]
    rw [ho] at c2
    go_enter Try.func17, Try.ntmps17
    go_wp2
    go_ret
    exact ⟨rfl, H.out, ⟨rfl, rfl, rfl, Nat.le_refl _, fun _ _ _ => rfl, fun _ _ _ => rfl⟩⟩
  · rw [if_neg ho]
    have ho' : d.off = false := by simpa using ho
    rw [ho'] at c2
    generalize stepD d = r at HST ⊢
    obtain ⟨ok, d'⟩ := r
    simp only at HST ⊢
    clear ho h0
    cases ok with
    | true =>
      rw [if_pos rfl]
      go_enter Try.func17, Try.ntmps17
      go_wp2_with fail
      refine HST.out.mono ?_
      rintro e w1 ⟨rfl, hd1, hk1⟩
      go_wp2_with fail
      refine (harden_calls D B d' w1 hd1).mono ?_
      rintro e w2 ⟨rfl, hd2, hk2⟩
      go_wp2
      go_ret
      exact ⟨rfl, hd2, (KD.of_kx (hk1 _) hD1 H.out.noU8).trans hk2⟩
    | false =>
      rw [if_neg (by simp)]
      go_enter Try.func17, Try.ntmps17
      go_wp2_with fail
      refine HST.out.mono ?_
      rintro e w1 ⟨rfl, hd1, hk1⟩
      go_wp2
      go_ret
      exact ⟨rfl, hd1, KD.of_kx (hk1 _) hD1 H.out.noU8⟩

theorem infoFile : (Try.prog.info? 79).map (fun i => (i.zero, i.size, i.bytes)) = some (some (.agg #[.slice none 0 0, .int .i64 0]), 2, 32) := by kernel_rfl
theorem zero_file (W : World) : (zeroValue 79).run Try.prog W = .ok (.agg #[.slice none 0 0, .int .i64 0]) W := by
  obtain ⟨i0, hi, hz0, _, _⟩ := info_parts infoFile
  simp [zeroValue, typeInfo, hi, hz0]
theorem field_b (W : World) (A : Option Addr) (n c : Nat) (x : Value) : (Instr.field 79 (.agg #[.slice A n c, x]) 0).run Try.prog W = .ok (.slice A n c) W := by
  simp [Instr.field, run_underlying Try.underlying79, part, isAgg, asAgg, run_underlying Try.underlying27, Result.andThen]

/-- What Read returns: the bytes and the error. -/
def readD (d : Dsk) (n : Int) : List Int × Int := if ¬ (0 ≤ n ∧ n < 64) then ([], 1) else if d.off = true then ([], 24) else ((fileAt d.fs n).b, 0)

set_option maxRecDepth 100000 in
set_option maxHeartbeats 2000000 in
theorem read_calls (D : Nat → Prop) (B : Nat) (d : Dsk) (n : Int) (hn : -9223372036854775808 ≤ n ∧ n ≤ 9223372036854775807) (hb : (fileAt d.fs n).b.length ≤ 140737488355328) (w : World) (h : Dk w D B d) :
    Calls Try.prog 19 #[.pointer (some ⟨B, 0, none⟩), .int .i64 n] w fun e w' => ∃ v, e = .returned (.tuple #[v, .int .i64 (readD d n).2]) ∧ Kd.R (Kd.int .u8) 5 w' w.heap.size (fun _ => True) v (readD d n).1 ∧ Below w.heap.size w w' := by
  obtain ⟨bm, m, h0, hm, hf, hD1, hD2, hD3⟩ := h
  have c0 := cell_of h0 0
  have c2 := cell_of h0 2
  unfold readD
  by_cases hr : 0 ≤ n ∧ n < 64
  · rw [if_neg (fun h => h hr)]
    have hd : decide (0 ≤ n ∧ n < 64) = true := decide_eq_true hr
    have HE := Lib.hid (exists_calls n w)
    rw [hd] at HE
    by_cases ho : d.off = true
    · rw [if_pos ho]
      rw [ho] at c2
      clear hd hr
      go_enter Try.func19, Try.ntmps19
      go_wp2_with fail
      refine HE.out.mono ?_
      rintro e w1 ⟨rfl, rfl⟩
      go_wp2
      go_ret2
      exact ⟨_, rfl, Kd.R_nil _ _ _ _ _, Below.refl _ _⟩
    · rw [if_neg ho]
      have ho' : d.off = false := by simpa using ho
      rw [ho'] at c2
      obtain ⟨A, c, hv, hlc, hrow⟩ := hf.look n
      have hlook := look_run (P := Try.prog) Try.underlying74 Try.underlying3 hm (zero_file w) n hn
      rw [hv] at hlook
      have HC := Lib.hid (clone_calls A c (fileAt d.fs n).b w (hrow.c (by omega)) hb)
      have hfld := field_b w A (fileAt d.fs n).b.length c (.int .i64 (fileAt d.fs n).dur)
      clear hd hr ho hrow hv
      go_enter Try.func19, Try.ntmps19
      go_wp2_with fail
      refine HE.out.mono ?_
      rintro e w1 ⟨rfl, rfl⟩
      go_wp2_with fail
      refine HC.out.mono ?_
      rintro e w2 ⟨v, rfl, hR, hB⟩
      go_wp2
      go_ret2
      exact ⟨_, rfl, hR, hB⟩
  · rw [if_pos hr]
    have hd : decide (0 ≤ n ∧ n < 64) = false := decide_eq_false hr
    have HE := Lib.hid (exists_calls n w)
    rw [hd] at HE
    clear hd hr
    go_enter Try.func19, Try.ntmps19
    go_wp2_with fail
    refine HE.out.mono ?_
    rintro e w1 ⟨rfl, rfl⟩
    go_wp2
    go_ret2
    exact ⟨_, rfl, Kd.R_nil _ _ _ _ _, Below.refl _ _⟩

/-- A row of one's own as a file's bytes. -/
theorem row8_of_own {W : World} {D : Nat → Prop} {base n c : Nat} {A : Option Addr} {bs : List Int} (h : W.ownsRow base 5 1 (.slice A n c) n (nums .u8 bs)) (hD : ∀ k, (Value.slice A n c).ownBlock = some k → D k) : Row8 W D A bs := by
  rcases h.2 with ⟨h1, h2⟩ | ⟨g, cap, cur, hv, _, hb, _, _, _, ht⟩
  · left
    have := h.1
    rw [h2] at this
    simpa [nums] using this
  · injection hv with hA
    subst hA
    refine .inr ⟨g, 0, cur, rfl, hD g (by simp [Value.ownBlock]), hb, fun j x hj => ?_⟩
    rw [Nat.zero_add]
    have h3 : (cur.toList.take (n * 1))[j]? = some (Value.int .u8 x) := by
      rw [ht]
      simp [nums, hj]
    rw [List.getElem?_take] at h3
    split at h3
    · simpa using h3
    · cases h3
theorem Dk.grow {W W' : World} {D : Nat → Prop} {B : Nat} {d : Dsk} (h : Dk W D B d) (hb : Below W.heap.size W W') : Dk W' D B d := by
  obtain ⟨bm, m, h0, hm, hf, hD1, hD2, hD3⟩ := h
  exact ⟨bm, m, (hb.block B (lt_of h0)).trans h0, hm.below hb, hf.same (fun _ h => h) (fun k hk _ _ => hb.block k (hD3 k hk)), hD1, hD2, fun k hk => Nat.lt_of_lt_of_le (hD3 k hk) hb.size⟩
theorem Dk.more {W : World} {D D' : Nat → Prop} {B : Nat} {d : Dsk} (h : Dk W D B d) (hD : ∀ k, D k → D' k) (hl : ∀ k, D' k → k < W.heap.size) : Dk W D' B d := by
  obtain ⟨bm, m, h0, hm, hf, hD1, hD2, _⟩ := h
  exact ⟨bm, m, h0, hm, hf.same hD (fun _ _ _ _ => rfl), hD _ hD1, hD _ hD2, hl⟩

end Go.Proofs.Ytjnbbmiccbjjbaa.Disk
