/- Scan of package journal: the records that it returns, and their length. -/
import Derived.Test.YtjnbbmiccbjjbaaFrame
import Derived.Test.YtjnbbmiccbjjbaaRdr
import Derived.Test.YtjnbbmiccbjjbaaSeqP
import Derived.RangeFuncBound
import Derived.RangeFuncCalls
import Derived.RangeFuncLeaves
import Derived.Shelf.Abstract
import Derived.Shelf.RegionOpen
import Derived.OwnWalkIn
import Derived.TacticsInMore
import Derived.LoopNIn
import Derived.LoopIn
import Derived.Maps.OwnIn
namespace Go.Proofs.Ytjnbbmiccbjjbaa.Scan
open Go.RowKit Go.Shelf Go.Proofs Go.Proofs.Ytjnbbmiccbjjbaa.Ma Go.Proofs.Ytjnbbmiccbjjbaa.Wire Go.Proofs.Ytjnbbmiccbjjbaa.Rdr Go.Proofs.Ytjnbbmiccbjjbaa.Hash Go.Proofs.YtjnbbmiccbjjbaaW.PrintWords Go.Proofs.YtjnbbmiccbjjbaaW.PrintLast

attribute [local go_sem] Oper.semAt_some

/-- A cut from the front of a slice of bytes. -/
theorem cut_run (A : Option Addr) (cap : Nat) (b : List Int) (m : Nat) (hm : m ≤ b.length) (hc : b.length ≤ cap) (k : IntKind) (w : World) (hC : Kd.C (Kd.int .u8) w A b.length b) :
    (∀ W : World, (Instr.slice 27 (.slice A b.length cap) none (some (.int k m)) none).run Try.prog W = .ok (.slice A (b.take m).length cap) W) ∧ Kd.C (Kd.int .u8) w A (b.take m).length (b.take m) ∧ (b.take m).length ≤ cap := by
  obtain ⟨i0, hi, hz0, hz1, hz2⟩ := info_parts info8
  obtain ⟨h1, h2, h3⟩ := print_take_of (P := Try.prog) (Value.int .u8) 0 27 5 k Try.underlying27 hi hz1 A cap b (m : Int) (by omega) (by omega) hc
  rw [Int.toNat_natCast] at h1 h2 h3
  exact ⟨h1, Kd.C_of_reads (h1 := fun _ => rfl) (h2 _ (Kd.reads_of_C hC)), h3⟩

theorem read_calls_n (A : Option Addr) (cap m : Nat) (l : List Int) (hm : l.length = m) (w : World) (hC : Kd.C (Kd.int .u8) w A l.length l) (hl : l.length ≤ 140737488355328) :
    Calls Try.prog 88 #[.slice A m cap] w fun e w' => ∃ B, e = .returned (.pointer (some ⟨B, 0, none⟩)) ∧ w.heap.size ≤ B ∧ Rdr w' B l 0 ∧ Below w.heap.size w w' := by
  subst hm
  exact read_calls A cap l w hC hl

set_option maxRecDepth 100000 in
set_option maxHeartbeats 4000000 in
theorem record_calls (A : Option Addr) (cap : Nat) (b : List Int) (hb255 : ∀ x ∈ b, 0 ≤ x ∧ x ≤ 255) (hl : b.length ≤ 140737488355327) (hcap : b.length ≤ cap) (w : World) (hC : Kd.C (Kd.int .u8) w A b.length b) :
    Calls Try.prog 82 #[.slice A b.length cap] w fun e w' => ∃ v, e = .returned v ∧ Kd.R (Kd.int .u8) 5 w' w.heap.size (fun _ => True) v (recL b) ∧ Below w.heap.size w w' := by
  obtain ⟨_, k2, _⟩ := cut_run A cap b (min b.length 10) (by omega) hcap .i64 w hC
  have hn1 := rdUint_lt (b.take (min b.length 10)) 0 (fun x hx => hb255 x (List.mem_of_mem_take hx))
  have hb1 : ∀ x ∈ b.take (min b.length 10), 0 ≤ x ∧ x ≤ 255 := fun x hx => hb255 x (List.mem_of_mem_take hx)
  have hL1 : (b.take (min b.length 10)).length = min b.length 10 := by rw [List.length_take]; omega
  obtain ⟨res, hr0⟩ : ∃ res, recL b = res := ⟨_, rfl⟩
  rw [hr0]
  have hr : (rdRaw (rdUint (rdRaw (b.take (min b.length (10 + min (rdUint (b.take (min b.length 10)) 0).1 b.length))) 0).1 0).2.1 (rdUint (rdRaw (b.take (min b.length (10 + min (rdUint (b.take (min b.length 10)) 0).1 b.length))) 0).1 0).2.2).1 = res := hr0
  clear hr0
  generalize b.take (min b.length 10) = L1 at k2 hn1 hb1 hL1 hr
  have hU1 := fun B w h => Rdr.uint_calls B L1 0 hb1 w h
  generalize hn : (rdUint L1 0).1 = n at hn1 hU1 hr
  obtain ⟨_, q2, _⟩ := cut_run A cap b (min b.length (10 + min n b.length)) (by omega) hcap .u64 w hC
  have hb2 : ∀ x ∈ b.take (min b.length (10 + min n b.length)), 0 ≤ x ∧ x ≤ 255 := fun x hx => hb255 x (List.mem_of_mem_take hx)
  have hL2 : (b.take (min b.length (10 + min n b.length))).length = min b.length (10 + min n b.length) := by rw [List.length_take]; omega
  generalize b.take (min b.length (10 + min n b.length)) = L2 at q2 hb2 hL2 hr
  have hb3 := rdRaw_byte L2 0 hb2
  have hl3 := rdRaw_len L2 0
  have hR2 := fun B w h => Rdr.raw_calls B L2 0 hb2 (by omega) w h
  generalize (rdRaw L2 0).1 = L3 at hb3 hl3 hR2 hr
  have hI3 := fun B w h => Rdr.int_calls B L3 0 hb3 w h
  have hb4 := rdUint_byte L3 0 hb3
  have hl4 := rdUint_le L3 0
  have HU1 := Lib.hid hU1
  have HR2 := Lib.hid hR2
  have HI3 := Lib.hid hI3
  have HRS := Lib.hid hr
  clear hn hU1 hR2 hI3 hr
  by_cases h10 : 10 < (b.length : Int)
  all_goals by_cases hnl : (b.length : Int) < (n : Int)
  all_goals by_cases h3 : 10 + (n : Int) < (b.length : Int)
  all_goals try (exfalso; omega)
  all_goals
    go_enter Try.func82, Try.ntmps82
    go_wp2_with fail
    refine (read_calls_n A cap _ L1 (by omega) w k2 (by omega)).mono ?_
    rintro e w1 ⟨B1, rfl, hB1, hr1, hb1⟩
    go_wp2_with fail
    refine (HU1.out B1 w1 hr1).mono ?_
    rintro e w2 ⟨rfl, hr2, hk2⟩
    have hb2 : Below w.heap.size w w2 := hb1.trans (hk2.below hb1.size hB1)
    go_wp2_with fail
    refine (read_calls_n A cap _ L2 (by omega) w2 (Kd.C_below q2 hb2) (by omega)).mono ?_
    rintro e w3 ⟨B3, rfl, hB3, hr3, hb3⟩
    have hb3 : Below w.heap.size w w3 := hb2.trans (hb3.mono hb2.size)
    have hB3 : w.heap.size ≤ B3 := Nat.le_trans hb2.size hB3
    go_wp2_with fail
    refine (HR2.out B3 w3 hr3).mono ?_
    rintro e w4 ⟨v4, rfl, hv4, hr4, hk4⟩
    obtain ⟨A4, c4, rfl, _, hC4⟩ := Kd.R_reads hv4
    have hb4 : Below w.heap.size w w4 := hb3.trans (hk4.below hb3.size hB3)
    go_wp2_with fail
    refine (read_calls A4 c4 L3 w4 hC4 (by omega)).mono ?_
    rintro e w5 ⟨B5, rfl, hB5, hr5, hb5⟩
    have hb5 : Below w.heap.size w w5 := hb4.trans (hb5.mono hb4.size)
    have hB5 : w.heap.size ≤ B5 := Nat.le_trans hb4.size hB5
    go_wp2_with fail
    refine (HI3.out B5 w5 hr5).mono ?_
    rintro e w6 ⟨rfl, hr6, hk6⟩
    have hb6 : Below w.heap.size w w6 := hb5.trans (hk6.below hb5.size hB5)
    go_wp2_with fail
    refine (Rdr.raw_calls B5 _ _ (by assumption) (by omega) w6 hr6).mono ?_
    rintro e w7 ⟨v7, rfl, hv7, hr7, hk7⟩
    go_wp2
    go_ret
    rw [HRS.out] at hv7
    exact ⟨_, rfl, Kd.R_lower hv7 hb6.size, hb6.trans (hk7.below hb6.size hB5)⟩

set_option maxHeartbeats 1000000 in
theorem equal_calls (A1 A2 : Option Addr) (c1 c2 n1 n2 : Nat) (a b : List Int) (ha : ∀ x ∈ a, 0 ≤ x ∧ x ≤ 255) (hb : ∀ x ∈ b, 0 ≤ x ∧ x ≤ 255) (h1 : a.length = n1) (h2 : b.length = n2) (w : World) (hC1 : Kd.C (Kd.int .u8) w A1 a.length a) (hC2 : Kd.C (Kd.int .u8) w A2 b.length b) :
    Calls Try.prog 92 #[.slice A1 n1 c1, .slice A2 n2 c2] w fun e w' => e = .returned (.bool (decide (a = b))) ∧ w = w' := by
  subst h1 h2
  have k1 : (convert 27 9 (.slice A1 a.length c1)).run Try.prog w = .ok (.string (strOfNums a)) w := Kd.C_string Try.underlying27 Try.underlying5 Try.underlying9 hC1
  have k2 : (convert 27 9 (.slice A2 b.length c2)).run Try.prog w = .ok (.string (strOfNums b)) w := Kd.C_string Try.underlying27 Try.underlying5 Try.underlying9 hC2
  have he : strOfNums a = strOfNums b ↔ a = b := ⟨fun h => by have := congrArg bytesOf h; rwa [bytesOf_strOfNums a ha, bytesOf_strOfNums b hb] at this, fun h => by rw [h]⟩
  have hbq : (((strOfNums a).toList == (strOfNums b).toList) : Bool) = decide (a = b) := by
    rw [Bool.eq_iff_iff, beq_iff_eq, decide_eq_true_iff, ← he, ByteArray.toList_eq, ByteArray.toList_eq]
    exact ⟨fun h => ByteArray.ext (Array.toList_inj.1 h), fun h => by rw [h]⟩
  clear he
  generalize strOfNums a = sa at k1 hbq
  generalize strOfNums b = sb at k2 hbq
  go_enter Try.func92, Try.ntmps92
  go_wp2
  go_ret
  exact ⟨rfl, rfl⟩

set_option maxHeartbeats 1000000 in
/-- bytes.HasPrefix, with the cut's own address. -/
theorem hasPrefix_calls (A1 A2 : Option Addr) (c1 c2 n1 : Nat) (a b : List Int) (ha : ∀ x ∈ a, 0 ≤ x ∧ x ≤ 255) (hb : ∀ x ∈ b, 0 ≤ x ∧ x ≤ 255) (h1 : a.length = n1) (hcap : n1 ≤ c1) (w : World) (hC1 : Kd.C (Kd.int .u8) w A1 a.length a) (hC2 : Kd.C (Kd.int .u8) w A2 b.length b) (_ : a.length ≤ 140737488355328) (_ : b.length ≤ 140737488355328) :
    Calls Try.prog 83 #[.slice A1 n1 c1, .slice A2 b.length c2] w fun e w' => e = .returned (.bool (decide (b <+: a))) ∧ w = w' := by
  subst h1
  by_cases hle : b.length ≤ a.length
  · obtain ⟨k1, k2, k3⟩ := cut_run A1 c1 a b.length hle hcap .i64 w hC1
    have hlt : (a.take b.length).length = b.length := by rw [List.length_take]; omega
    have hd : decide (a.take b.length = b) = decide (b <+: a) := by
      rw [Bool.eq_iff_iff, decide_eq_true_iff, decide_eq_true_iff]
      exact ⟨fun h => ⟨a.drop b.length, by conv => { lhs; lhs; rw [← h] }; exact List.take_append_drop _ _⟩, fun ⟨t, ht⟩ => by rw [← ht, List.take_left']; rfl⟩
    rw [hlt] at k1
    have Hd := Lib.hid hd
    have hge : decide ((a.length : Int) ≥ (b.length : Int)) = true := by simp; omega
    clear hd k3
    have Hlt := Lib.hid hlt
    clear hlt
    go_enter Try.func83, Try.ntmps83
    go_wp2_with (go_at_call 92; refine (equal_calls A1 A2 c1 c2 _ _ (a.take b.length) b (fun x hx => ha x (List.mem_of_mem_take hx)) hb Hlt.out rfl w k2 hC2).mono ?_; rintro e w' ⟨rfl, rfl⟩)
    all_goals try (exfalso; omega)
    go_ret
    exact ⟨congrArg (fun z => Ending.returned (Value.bool z)) Hd.out, rfl⟩
  · have hd : decide (b <+: a) = false := by
      rw [decide_eq_false_iff_not]
      exact fun h => hle h.length_le
    rw [hd]
    clear hd
    go_enter Try.func83, Try.ntmps83
    go_wp2_with fail
    all_goals try (exfalso; omega)
    go_ret
    exact ⟨rfl, rfl⟩

theorem record_calls_n (A : Option Addr) (cap m : Nat) (b : List Int) (hm : b.length = m) (hb255 : ∀ x ∈ b, 0 ≤ x ∧ x ≤ 255) (hl : b.length ≤ 140737488355327) (hcap : b.length ≤ cap) (w : World) (hC : Kd.C (Kd.int .u8) w A b.length b) :
    Calls Try.prog 82 #[.slice A m cap] w fun e w' => ∃ v, e = .returned v ∧ Kd.R (Kd.int .u8) 5 w' w.heap.size (fun _ => True) v (recL b) ∧ Below w.heap.size w w' := by
  subst hm
  exact record_calls A cap b hb255 hl hcap w hC

/-- A cut of a slice of bytes, to its end. -/
theorem drop_run (A : Option Addr) (cap : Nat) (b : List Int) (m : Nat) (hm : m ≤ b.length) (hc : b.length ≤ cap) (w : World) (hC : Kd.C (Kd.int .u8) w A b.length b) :
    ∃ A' : Option Addr, (∀ W : World, (Instr.slice 27 (.slice A b.length cap) (some (.int .i64 m)) none none).run Try.prog W = .ok (.slice A' (b.length - m) (cap - m)) W) ∧ Kd.C (Kd.int .u8) w A' (b.drop m).length (b.drop m) ∧ (b.drop m).length ≤ cap - m := by
  obtain ⟨i0, hi, hz0, hz1, hz2⟩ := info_parts info8
  obtain ⟨A', h1, h2, h3⟩ := print_drop_of (P := Try.prog) (Value.int .u8) 0 27 5 .i64 Try.underlying27 hi hz1 A cap b (m : Int) (by omega) (by omega) hc
  rw [Int.toNat_natCast] at h1 h2 h3
  exact ⟨A', fun W => by have := h1 W; rwa [List.length_drop] at this, Kd.C_of_reads (h1 := fun _ => rfl) (h2 _ (Kd.reads_of_C hC)), h3⟩

/-- A record that is handed on: where its bytes lie, the bytes, where its frame ends. -/
structure Rec where
  A : Option Addr
  c : Nat
  x : List Int
  p : Int
def Rec.val (r : Rec) : Value := .slice r.A r.x.length r.c
def Rec.encs (r : Rec) : Array Value := #[r.val, .int .i64 r.p]
def Rec.data (r : Rec) : List Int × Int := (r.x, r.p)
/-- What is known of a record where it is handed on. -/
def RecPre (base N : Nat) (pre : List Rec) (r : Rec) (W : World) : Prop := (Kd.int .u8).R 5 W base (fun _ => True) r.val r.x ∧ pre.length ≤ N

/-- What a round keeps. -/
structure KP (n₀ base Bo Bn : Nat) (W W' : World) : Prop where
  below : Below n₀ W W'
  cells : ∀ k cs t, W.heap[k]? = some (.cells cs t (0, 0)) → k ≠ Bo → k ≠ Bn → (t ≠ 27 ∨ k < base) → W'.heap[k]? = W.heap[k]?
theorem KP.trans {n₀ base Bo Bn : Nat} {A B C : World} (h : KP n₀ base Bo Bn A B) (k : KP n₀ base Bo Bn B C) : KP n₀ base Bo Bn A C :=
  ⟨h.below.trans k.below, fun i cs t hi h1 h2 h3 => by
    have e := h.cells i cs t hi h1 h2 h3
    exact (k.cells i cs t (e.trans hi) h1 h2 h3).trans e⟩
theorem KP.putObj {n₀ base Bo Bn : Nat} {w : World} (hn : n₀ ≤ w.heap.size) (W : World) (l : Nat) (o o' : Obj) (hl : w.heap.size ≤ l) (h : W.heap[l]? = some o) (ho : o.isCells = false) (_ : o.isWalk = false) : KP n₀ base Bo Bn W (W.putObj l o') :=
  ⟨belowK_b hn W l o o' hl h ho (by assumption), fun i cs t hi _ _ _ => World.putObj_heap_other (fun e => by subst e; rw [h] at hi; cases hi; cases ho)⟩

theorem abides_below {β : Type} {B : Nat} {J : β → World → Prop} (hJ : AbidesFrom B J) {s : β} {W W' : World} (h : J s W) (hb : Below W.heap.size W W') : J s W' :=
  hJ s W W' none h (grown_of_below hb none) (fun r e => by cases e)

set_option maxRecDepth 100000 in
set_option maxHeartbeats 4000000 in
theorem records1_in (n : Nat) (hn : 2 ≤ n) (l Bs n₀ base Bo Bn : Nat) (A : Option Addr) (cap : Nat) (b : List Int) (hb255 : ∀ x ∈ b, 0 ≤ x ∧ x ≤ 255) (hlen : b.length ≤ 1099511627776) (hcap : b.length ≤ cap) (hBs : Bs < base) (hBso : Bs ≠ Bo) (hBsn : Bs ≠ Bn) (w0 : World) (hw0 : w0.heap.size ≤ n₀) (hC : Kd.C (Kd.int .u8) w0 A b.length b)
    (J : List Rec → World → Prop) (W : World) (hbase : base ≤ W.heap.size) (hJ : AbidesFrom W.heap.size J)
    (hY : ∀ pre x W1, J pre W1 → RecPre base b.length pre x W1 → YieldAt Fence.wide (n - 1) Try.prog l x.encs W1 fun e W' => e = .returned (.bool true) ∧ J (pre ++ [x]) W' ∧ KP n₀ base Bo Bn W1 W')
    (hW : Below w0.heap.size w0 W) (hBx : Boxed W Bs 27 (.slice A b.length cap)) (h0 : J [] W) :
    CallsIn Fence.wide n Try.prog 81 #[.func (.yield l) #[] #[], .pointer (some ⟨Bs, 0, none⟩)] W fun e W' => (∃ v, e = .returned v) ∧ ∃ xs : List Rec, xs.map Rec.data = scanR (b.length + 1) 0 0 b ∧ J xs W' := by
  have hro : Fence.wide.round = none := rfl
  refine callsIn_of_wp Try.func81 rfl trivial ?_ hro
  simp only [Try.ntmps81, List.size_toArray, List.length_cons, List.length_nil, Nat.reduceAdd, Nat.reduceSub, Array.replicate_succ, Array.replicate_zero, List.push_toArray, List.append_toArray, List.nil_append, List.cons_append]
  gi_wp2
  gi_loopw [3, 4] (fun a i wr => ∃ (k p f : Nat) (pre : List Rec), a = .int .i64 p ∧ i = .int .i64 k ∧ p ≤ b.length ∧ k ≤ p ∧ pre.length = k ∧ b.length - p < f ∧ Hid (scanR (b.length + 1) 0 0 b = pre.map Rec.data ++ scanR f k p b) ∧ J pre wr ∧ Below w0.heap.size w0 wr ∧ Boxed wr Bs 27 (.slice A b.length cap) ∧ base ≤ wr.heap.size)
    (fun a _ _ => b.length - (intOf a).toNat)
  case atStart => exact ⟨0, 0, b.length + 1, [], rfl, rfl, Nat.zero_le _, Nat.le_refl _, rfl, by omega, Lib.hid rfl, h0, hW, hBx, hbase⟩
  case round =>
    obtain ⟨k, p, f, pre, rfl, rfl, hp, hk, hpl, hf, hs, hJs, hWr, hBr, hbr⟩ := hrel
    have hbc := hBr.cell
    have hJ' := hJ
    have HPL := Lib.hid hpl
    clear hpl
    by_cases hlt : p < b.length
    · obtain ⟨A', hcut, hC', hcap'⟩ := drop_run A cap b p hp hcap w0 hC
      have hb' : ∀ x ∈ b.drop p, 0 ≤ x ∧ x ≤ 255 := fun x hx => hb255 x (List.mem_of_mem_drop hx)
      have hl' : (b.drop p).length = b.length - p := List.length_drop
      obtain ⟨f, rfl⟩ : ∃ f', f = f' + 1 := ⟨f - 1, by omega⟩
      have hbad := scanR_bad (f + 1) k p b
      have hgood := scanR_good f k p b hlt
      have hxb := recL_byte _ hb'
      have hxl := recL_len (b.drop p)
      have hrc := record_calls_n A' (cap - p) (b.length - p) (b.drop p) hl' hb' (by omega) hcap' wr (Kd.C_below hC' hWr)
      generalize recL (b.drop p) = x at hbad hgood hxb hxl hrc
      generalize b.drop p = b' at hb' hl' hbad hgood hC' hxl hrc hcap'
      have Hbad := Lib.hid hbad
      have Hgood := Lib.hid hgood
      have Hrc := Lib.hid hrc
      have Hl := Lib.hid hl'
      clear hbad hgood hrc hl'
      gi_wp2_with fail
      refine ⟨trivial, fun _ => by omega, (callsIn_wide.2 Hrc.out).mono ?_⟩
      rintro e w1 ⟨v1, rfl, hr1, hb1⟩
      have hJ1 := abides_below hJ' hJs hb1
      have hW1 : Below w0.heap.size w0 w1 := hWr.trans (hb1.mono hWr.size)
      have hB1 : Boxed w1 Bs 27 (.slice A b.length cap) := (hb1.block Bs hBr.lt).trans hBr
      obtain ⟨Ax, cx, rfl, hxc, hCx⟩ := Kd.R_reads hr1
      have hkr : -9223372036854775808 ≤ (k : Int) ∧ (k : Int) ≤ 9223372036854775807 := by omega
      gi_wp2_with fail
      refine ⟨trivial, fun _ => by omega, (callsIn_wide.2 (Frame.frame_calls (k : Int) hkr Ax cx x hxb (by have := Hl.out; omega) w1 hCx)).mono ?_⟩
      rintro e w2 ⟨v2, rfl, hr2, hb2⟩
      have hJ2 := abides_below hJ' hJ1 hb2
      have hW2 : Below w0.heap.size w0 w2 := hW1.trans (hb2.mono hW1.size)
      have hB2 : Boxed w2 Bs 27 (.slice A b.length cap) := (hb2.block Bs hB1.lt).trans hB1
      have hbc2 := hB2.cell
      have hfb := frameL_byte (k : Int) x hxb
      have hfp := frameL_pos (k : Int) x
      have hfl := frameL_length (k : Int) hkr x (by have := Hl.out; omega)
      generalize frameL (k : Int) x = fr at Hbad Hgood hr2 hfb hfp hfl
      obtain ⟨Af, cf, rfl, hfc, hCf⟩ := Kd.R_reads hr2
      clear hbc
      gi_wp2_with fail
      refine ⟨trivial, fun _ => by omega, (callsIn_wide.2 (hasPrefix_calls A' Af (cap - p) cf (b.length - p) b' fr hb' hfb Hl.out (by have := Hl.out; omega) w2 (Kd.C_below hC' hW2) hCf (by have := Hl.out; omega) (by have := Hl.out; omega))).mono ?_⟩
      rintro e w3 ⟨rfl, rfl⟩
      by_cases hpf : fr <+: b'
      · have hd : decide (fr <+: b') = true := decide_eq_true hpf
        have hfl2 : p + fr.length ≤ b.length := by have := hpf.length_le; have := Hl.out; omega
        obtain ⟨fn, tmps, assign, body, hy, hR⟩ := hY pre ⟨Ax, cx, x, ((p + fr.length : Nat) : Int)⟩ w2 hJ2 ⟨Kd.R_lower (Kd.R_below hr1 hb2) hbr, by have := HPL.out; omega⟩
        have hg := Hgood.out hpf
        have Hg := Lib.hid hg
        clear hg
        dsimp only [Rec.encs, Rec.val] at hy
        rw [show ((p + fr.length : Nat) : Int) = (p : Int) + (fr.length : Int) by omega] at hy
        gi_wp2
        refine ⟨fun _ => by omega, hR.mono ?_⟩
        rintro e W3 ⟨rfl, hJ3, hk3⟩
        have hW3 : Below w0.heap.size w0 W3 := hW2.trans (hk3.below.mono hw0)
        have hB3 : Boxed W3 Bs 27 (.slice A b.length cap) := (hk3.cells Bs _ _ hB2 hBso hBsn (.inr hBs)).trans hB2
        gi_wp2
        go_roundw
        case rel => exact ⟨k + 1, p + fr.length, f, pre ++ [⟨Ax, cx, x, ((p + fr.length : Nat) : Int)⟩], by simp, by simp, hfl2, by omega, by simp [HPL.out], by omega, Lib.hid (by rw [hs.out, Hg.out, List.map_append, List.append_assoc]; rfl), hJ3, hW3, hB3, Nat.le_trans hbr (Nat.le_trans hb1.size (Nat.le_trans hb2.size hk3.below.size))⟩
        case measure => simp [intOf]; omega
      · have hd : decide (fr <+: b') = false := decide_eq_false hpf
        have hg := Hbad.out hpf
        have Hg := Lib.hid hg
        clear hg
        gi_wp2
        refine bodyPost_ret (results_none rfl _ _ _) rfl ?_
        exact ⟨⟨_, rfl⟩, pre, by rw [hs.out, Hg.out, List.append_nil], hJ2⟩
    · gi_wp2
      go_end0
      exact ⟨⟨_, rfl⟩, pre, by rw [hs.out, scanR_end _ _ _ _ hlt, List.append_nil], hJs⟩

set_option maxHeartbeats 1000000 in
theorem records_in (n : Nat) (A : Option Addr) (len cap : Nat) (w : World) :
    CallsIn Fence.wide n Try.prog 73 #[.slice A len cap] w fun e w' => e = .returned (.func (.func 81) #[] #[.pointer (some ⟨w.heap.size, 0, none⟩)]) ∧ w' = w.alloc (.cells #[.slice A len cap] 27) := by
  refine callsIn_of_wp Try.func73 rfl trivial ?_ rfl
  simp only [Try.ntmps73, List.size_toArray, List.length_cons, List.length_nil, Nat.reduceAdd, Nat.reduceSub, Array.replicate_succ, Array.replicate_zero, List.push_toArray, List.append_toArray, List.nil_append, List.cons_append]
  gi_wp2
  go_ret
  exact ⟨rfl, rfl⟩

/-- Where the last record ends. -/
def lastP (l : List Rec) : Int := (l.getLast?.map Rec.p).getD 0
theorem lastP_snoc (l : List Rec) (r : Rec) : lastP (l ++ [r]) = r.p := by simp [lastP]

theorem R_noncell {α : Type} {d : Kd α} {e base : Nat} {ok : Nat → Prop} {W W' : World} {v : Value} {xs : List α} (h : d.R e W base ok v xs) {row : Option Nat} (hg : W.grownBy W' row) (hr : ∀ r, row = some r → ∃ o : Obj, W.heap[r]? = some o ∧ o.isCells = false) : d.R e W' base ok v xs :=
  Kd.R_mono (Kd.R_move (Kd.R_bound h) (fun k hk => hg.block k hk.2.2.1 (fun e' => by
    obtain ⟨_, _, _, q, _, cells, hc⟩ := hk
    obtain ⟨o, ho, hn⟩ := hr k e'.symm
    rw [ho] at hc
    cases hc
    cases hn))) (fun _ hk => hk.1)

theorem info24 : (Try.prog.info? 27).map (fun i => (i.zero, i.size, i.bytes)) = some (some (.slice none 0 0), 1, 24) := by kernel_rfl

/-- A store into a variable's box leaves a row of rows as it was. -/
theorem R_box {W : World} {base B t : Nat} {u v : Value} {xs : List (List Int)} (hB : Boxed W B t u) (h : (Kd.slice 5 (Kd.int .u8)).R 27 W base (fun _ => True) v xs) (u' : Value) (ht : t ≠ 5 ∧ t ≠ 27 := by decide) : (Kd.slice 5 (Kd.int .u8)).R 27 (W.setCell ⟨B, 0, none⟩ u') base (fun _ => True) v xs :=
  Kd.R_set h hB (fun q hq e => by
    subst e
    rcases List.mem_cons.1 hq with hq | hq
    · exact ht.2 hq
    · rcases List.mem_cons.1 hq with hq | hq
      · exact ht.1 hq
      · cases hq) 0 u'

/-- A byte slice's row is no row of byte slices. -/
theorem R_apart {W : World} {base base' : Nat} {u v : Value} {x : List Int} {n : Nat} {xs : List Value} (h : (Kd.int .u8).R 5 W base (fun _ => True) u x) (hv : W.ownsRow base' 27 1 v n xs) : (Kd.int .u8).R 5 W base (fun k => some k ≠ v.ownBlock) u x :=
  Kd.R_mono (Kd.R_bound h) (fun k hk => by
    obtain ⟨_, _, _, q, hq, cells, hc⟩ := hk
    intro e
    obtain ⟨cells', hc'⟩ := own_typed hv k e.symm
    rw [hc] at hc'
    injection hc' with hc'
    injection hc' with _ hc'
    subst hc'
    exact absurd hq (by decide))

set_option maxRecDepth 100000 in
set_option maxHeartbeats 4000000 in
theorem scan_within (A : Option Addr) (cap : Nat) (b : List Int) (hb255 : ∀ x ∈ b, 0 ≤ x ∧ x ≤ 255) (hlen : b.length ≤ 1099511627776) (hcap : b.length ≤ cap) (w : World) (hC : Kd.C (Kd.int .u8) w A b.length b) :
    CallsIn Fence.wide 6 Try.prog 60 #[.slice A b.length cap] w fun e w' => ∃ v, e = .returned (.tuple #[v, .int .i64 (((scanR (b.length + 1) 0 0 b).getLast?.map Prod.snd).getD 0)]) ∧
      (Kd.slice 5 (Kd.int .u8)).R 27 w' w.heap.size (fun _ => True) v ((scanR (b.length + 1) 0 0 b).map Prod.fst) ∧ Below w.heap.size w w' := by
  refine callsIn_of_wp_marks Try.func60 rfl trivial ?_ rfl
  simp only [Try.ntmps60, List.size_toArray, List.length_cons, List.length_nil, Nat.reduceAdd, Nat.reduceSub, Array.replicate_succ, Array.replicate_zero, List.push_toArray, List.append_toArray, List.nil_append, List.cons_append]
  gi_wp2_with fail
  refine ⟨trivial, (records_in 5 A b.length cap _).mono ?_⟩
  rintro e w' ⟨rfl, rfl⟩
  obtain ⟨i0, hi, hz0, hz1, hz2⟩ := info_parts info24
  have bO := ((Boxed.new w 22 (.slice none 0 0)).alloc (.cells #[.int .i64 0] 3)).alloc (.cells #[.slice A b.length cap] 27)
  have bN := (Boxed.new (w.alloc (.cells #[.slice none 0 0] 22)) 3 (.int .i64 0)).alloc (.cells #[.slice A b.length cap] 27)
  have bS := Boxed.new ((w.alloc (.cells #[.slice none 0 0] 22)).alloc (.cells #[.int .i64 0] 3)) 27 (.slice A b.length cap)
  have hB0 : Below w.heap.size w (((w.alloc (.cells #[.slice none 0 0] 22)).alloc (.cells #[.int .i64 0] 3)).alloc (.cells #[.slice A b.length cap] 27)) := (((Below.refl _ w).alloc (Nat.le_refl _) _).alloc (by simp) _).alloc (by simp; omega) _
  have hsz : (((w.alloc (.cells #[.slice none 0 0] 22)).alloc (.cells #[.int .i64 0] 3)).alloc (.cells #[.slice A b.length cap] 27)).heap.size = w.heap.size + 3 := by simp
  simp only [World.size_alloc] at bN bS
  gi_wp2_with fail
  generalize (((w.alloc (.cells #[.slice none 0 0] 22)).alloc (.cells #[.int .i64 0] 3)).alloc (.cells #[.slice A b.length cap] 27)) = wL at bO bN bS hB0 hsz ⊢
  have hCL := Kd.C_below hC hB0
  have hseq : SeqP.SeqAll Fence.wide 5 Try.prog 81 #[.pointer (some ⟨w.heap.size + 1 + 1, 0, none⟩)] Rec.encs (RecPre (w.heap.size + 3) b.length) (KP w.heap.size (w.heap.size + 3) w.heap.size (w.heap.size + 1)) (fun xs => xs.map Rec.data = scanR (b.length + 1) 0 0 b) wL := fun l J W hW hJ hY h0 =>
    records1_in 5 (by omega) l (w.heap.size + 1 + 1) w.heap.size (w.heap.size + 3) w.heap.size (w.heap.size + 1) A cap b hb255 hlen hcap (by omega) (by omega) (by omega) w (Nat.le_refl _) hC J W (by have := hW.size; omega) hJ hY (hB0.trans (hW.mono hB0.size)) ((hW.block _ bS.lt).trans bS) h0
  have Hsz := Lib.hid hsz
  clear hsz
  refine SeqP.rangeFunc_all rfl (by omega) (gf := 81) (lb := #[.pointer (some ⟨w.heap.size + 1 + 1, 0, none⟩)]) rfl trivial (enters_of Try.func81 (by kernel_rfl) rfl) hseq
    (fun pre x W l o o' hx hl h ho hw => ⟨R_noncell hx.1 (grownBy_putObj' W l o') (fun r e => by cases e; exact ⟨o, h, ho⟩), hx.2⟩) KP.trans (KP.putObj hB0.size) (Below.refl _ _) (fun _ => rfl)
    (fun pre W => ((∃ v, Boxed W w.heap.size 22 v ∧ (Kd.slice 5 (Kd.int .u8)).R 27 W (w.heap.size + 3) (fun _ => True) v (pre.map Rec.x)) ∧ Boxed W (w.heap.size + 1) 3 (.int .i64 (lastP pre))) ∧ Below w.heap.size w W ∧ w.heap.size + 3 ≤ W.heap.size)
    (OwnFrom.and (OwnFrom.and (Own.from (fun s X Y row hs hg hr => by
        obtain ⟨v, hv, hR⟩ := hs
        exact ⟨v, hv.kept hg (fun e' => by obtain ⟨o, ho, hc⟩ := hr _ e'.symm; rw [show X.heap[w.heap.size]? = _ from hv] at ho; cases ho; cases hc), R_noncell hR hg hr⟩) _) (Own.from (boxed_own _ _ (fun pre => .int .i64 (lastP pre))) _)) (OwnFrom.and (ownFrom_below (Nat.le_refl _) (by have := Hsz.out; omega)) (fun _ _ _ _ h hg _ => Nat.le_trans h hg.size)))
    ⟨⟨⟨_, bO, Kd.R_nil _ _ _ _ _⟩, bN⟩, hB0, by have := Hsz.out; omega⟩
    ?a1 ?assign ?body ?done
  case assign =>
    intro l x W K hK
    dsimp only [Rec.encs, Rec.val]
    gi_wp2
    exact hK
  case body =>
    rintro l pre ⟨Ax, cx, xx, px⟩ W ⟨⟨⟨v, hv, hR⟩, hN⟩, hB, hS3⟩ ⟨hx, hpl⟩
    dsimp only [Rec.val] at hx
    have hcN := hN.cell
    have hfN := hN.frozen
    have hsz3 : w.heap.size + 3 ≤ W.heap.size := hS3
    have hcO := hv.cell
    have hfO := hv.frozen
    have hRA := Kd.R_alloc hR (.cells #[.slice Ax xx.length cx] 27)
    have hxA := Kd.R_alloc hx (.cells #[.slice Ax xx.length cx] 27)
    obtain ⟨h0, inner, hownA, hreps⟩ := hRA
    have hxap := R_apart hxA hownA
    obtain ⟨innerW, hown⟩ := Kd.R_own hR
    have hml : (pre.map Rec.x).length = pre.length := by simp
    have hown1A : (W.alloc (.cells #[.slice Ax xx.length cx] 27)).ownsRow (w.heap.size + 3) 27 1 v pre.length inner := by rw [← hml]; exact hownA
    have hml2 := hml
    clear hml
    have HML := Lib.hid hml2
    clear hml2
    gi_wp2_with (gi_at_builtin; refine wpListIn_append_own_at _ rfl _ _ 22 rfl (w.heap.size + 3) 27 i0 (.slice none 0 0) 1 24 Try.underlying22 hi hz0 hz1 hz2 rfl (by decide) v pre.length inner rfl hown1A ⟨W.heap.size, 0, none⟩ 1 1 [.slice Ax xx.length cx] rfl rfl (cell_one_new _ _ _) (by simp [Value.oneCell']) (by unfold maxLen; omega) (by omega) (by simp; omega) ?_; intro v1 w1 hown1 hgrow1 _ hat1; obtain ⟨g', cap', rfl⟩ := ownsRow_succ hown1; have hg2 : (W.alloc (.cells #[.slice Ax xx.length cx] 27)).grownBy w1 v.ownBlock := hgrow1; have hvA := hv.alloc (.cells #[.slice Ax xx.length cx] 27); have hNA := hN.alloc (.cells #[.slice Ax xx.length cx] 27); have hv1 := hvA.kept hg2 (hvA.not_row (by decide) hown1A); have hN1 := hNA.kept hg2 (hNA.not_row (by decide) hown1A); have hcv := hv1.cell; have hfv := hv1.frozen; have hN2 := hN1.other (B' := w.heap.size) (by omega) (.slice (some ⟨g', 0, none⟩) (pre.length + 1) cap'); have hcn := hN2.cell; have hfn := hN2.frozen)
    have hRR := Kd.R_appended (d := Kd.slice 5 (Kd.int .u8)) (W := W.alloc (.cells #[.slice Ax xx.length cx] 27)) (okp := fun k => some k ≠ v.ownBlock) h0 hreps ⟨_, rfl, hxap⟩ (fun k hk => ⟨trivial, hk⟩) (fun _ _ => trivial) (by rw [HML.out]; exact hown1) hg2 (by rcases hat1 with h | h; exact .inl h; exact .inr ⟨_, h, Nat.le_refl _⟩)
    have hv2 := hv1.set (.slice (some ⟨g', 0, none⟩) (pre.length + 1) cap')
    have hv3 := hv2.other (B' := w.heap.size + 1) (by omega) (.int .i64 px)
    have hN3 := hN2.set (.int .i64 px)
    have hR2 := R_box hv1 hRR (.slice (some ⟨g', 0, none⟩) (pre.length + 1) cap')
    have hR3 := R_box hN2 hR2 (.int .i64 px)
    have hk1 : KeepsOthers W w1 := (KeepsOthers.alloc W (.cells #[.slice Ax xx.length cx] 27)).trans (KeepsOthers.of_grownBy hg2 fun q o eq hq => by
      obtain ⟨cells, hcl⟩ := own_typed hown1A q eq
      rw [hq] at hcl
      cases hcl
      rfl)
    have hk3 := (hk1.trans (KeepsOthers.setCell w1 ⟨w.heap.size, 0, none⟩ (.slice (some ⟨g', 0, none⟩) (pre.length + 1) cap'))).trans (KeepsOthers.setCell _ ⟨w.heap.size + 1, 0, none⟩ (.int .i64 px))
    have hob := own_base hown1A
    have hbl : Below w.heap.size W ((w1.setCell ⟨w.heap.size, 0, none⟩ (.slice (some ⟨g', 0, none⟩) (pre.length + 1) cap')).setCell ⟨w.heap.size + 1, 0, none⟩ (.int .i64 px)) :=
      ((((Below.refl w.heap.size W).alloc hB.size _).grown hg2 (by simp; omega) (fun k e => by have := hob k e; omega)).setCell (p := ⟨w.heap.size, 0, none⟩) (Nat.le_refl _) _).setCell (p := ⟨w.heap.size + 1, 0, none⟩) (by simp) _
    have hcells : ∀ k cs t, W.heap[k]? = some (.cells cs t (0, 0)) → k ≠ w.heap.size → k ≠ w.heap.size + 1 → (t ≠ 27 ∨ k < w.heap.size + 3) → ((w1.setCell ⟨w.heap.size, 0, none⟩ (.slice (some ⟨g', 0, none⟩) (pre.length + 1) cap')).setCell ⟨w.heap.size + 1, 0, none⟩ (.int .i64 px)).heap[k]? = W.heap[k]? := fun k cs t hk h1 h2 h3 => by
      have hlt : k < W.heap.size := (Array.getElem?_eq_some_iff.1 hk).1
      have hA : (W.alloc (.cells #[.slice Ax xx.length cx] 27)).heap[k]? = W.heap[k]? := Below.heap_alloc _ _ _ hlt
      have hne : some k ≠ v.ownBlock := fun e => by
        have hb := hob k e.symm
        obtain ⟨cells, hcl⟩ := own_typed hown1A k e.symm
        rw [hA, hk] at hcl
        injection hcl with hcl
        injection hcl with _ hcl
        rcases h3 with h3 | h3
        · exact h3 hcl
        · omega
      exact ((Below.heap_setCell _ _ _ _ h2).trans (Below.heap_setCell _ _ _ _ h1)).trans ((hg2.block k (by simp; omega) hne).trans hA)
    exact ⟨hk3.from _, ⟨hbl, hcells⟩, ⟨⟨_, hv3, by rw [List.map_append]; exact hR3⟩, by rw [lastP_snoc]; exact hN3⟩, hB.trans hbl, Nat.le_trans hS3 hbl.size⟩
  case done =>
    rintro D ys W hD hS ⟨⟨⟨v, hv, hR⟩, hN⟩, hB, hS3⟩ hK
    have hcO := hv.cell
    have hcN := hN.cell
    gi_wp2
    gi_region
    gi_wp2
    have hK' : W.drew.heap[D]? = some (.deferred (some [])) := hK
    refine ⟨by simp, .inl ⟨_, _, rfl, run_takeDeferred hK', ?_⟩⟩
    have hxs : ys.map Rec.x = (scanR (b.length + 1) 0 0 b).map Prod.fst := by rw [← hS, List.map_map]; rfl
    have hps : lastP ys = (((scanR (b.length + 1) 0 0 b).getLast?.map Prod.snd).getD 0) := by
      rw [← hS]
      unfold lastP
      rw [List.getLast?_map, Option.map_map]
      rfl
    refine ⟨.tuple #[v, .int .i64 (lastP ys)], ?_, v, by rw [hps], ?_, (hB.drew).trans (belowK_b (w := w) (Nat.le_refl _) _ D _ _ (by have := Hsz.out; omega) hK' rfl rfl)⟩
    · simp [results, Try.f60, go_sem]
    · rw [← hxs]
      exact Kd.R_lower (R_noncell (Kd.R_drew hR) (grownBy_putObj' _ D _) (fun r e => by cases e; exact ⟨_, hK', rfl⟩)) (by omega)

theorem scan_calls (A : Option Addr) (cap : Nat) (b : List Int) (hb255 : ∀ x ∈ b, 0 ≤ x ∧ x ≤ 255) (hlen : b.length ≤ 1099511627776) (hcap : b.length ≤ cap) (w : World) (hC : Kd.C (Kd.int .u8) w A b.length b) :
    Calls Try.prog 60 #[.slice A b.length cap] w fun e w' => ∃ v, e = .returned (.tuple #[v, .int .i64 (((scanR (b.length + 1) 0 0 b).getLast?.map Prod.snd).getD 0)]) ∧
      (Kd.slice 5 (Kd.int .u8)).R 27 w' w.heap.size (fun _ => True) v ((scanR (b.length + 1) 0 0 b).map Prod.fst) ∧ Below w.heap.size w w' :=
  callsIn_wide.1 (scan_within A cap b hb255 hlen hcap w hC)

end Go.Proofs.Ytjnbbmiccbjjbaa.Scan
