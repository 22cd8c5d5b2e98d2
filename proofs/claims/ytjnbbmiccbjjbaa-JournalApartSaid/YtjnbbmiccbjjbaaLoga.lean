/- Package journal: (*Log).Append, Len, Up. -/
import Derived.Test.YtjnbbmiccbjjbaaJnla
import Derived.Deep.RegionHeld3
namespace Go.Proofs.Ytjnbbmiccbjjbaa.Jnl
open Go.RowKit Go.Proofs Go.Proofs.Ytjnbbmiccbjjbaa.Ma Go.Proofs.Ytjnbbmiccbjjbaa.Wire Go.Proofs.Ytjnbbmiccbjjbaa.Rdr Go.Proofs.Ytjnbbmiccbjjbaa.Scan Go.Proofs.Ytjnbbmiccbjjbaa.Few Go.Proofs.Ytjnbbmiccbjjbaa.Ref07 Go.Proofs.Ytjnbbmiccbjjbaa.Lives7 Go.Proofs.Ytjnbbmiccbjjbaa.Disk Go.Proofs.YtjnbbmiccbjjbaaW.PrintWords Go.Proofs.YtjnbbmiccbjjbaaW.PrintLast

set_option maxRecDepth 100000 in
set_option maxHeartbeats 1000000 in
theorem len_calls {w : World} {L B : Nat} {file n : Int} {down : Bool} (h : Lg w L B file n down) : Calls Try.prog 41 #[.pointer (some ⟨L, 0, none⟩)] w fun e w' => e = .returned (.int .i64 n) ∧ w = w' := by
  have c2 := cell_of h 2
  go_enter Try.func41, Try.ntmps41
  go_wp2
  go_ret
  exact ⟨rfl, rfl⟩

set_option maxRecDepth 100000 in
set_option maxHeartbeats 1000000 in
theorem up_calls {w : World} {L B : Nat} {file n : Int} {down : Bool} (h : Lg w L B file n down) : Calls Try.prog 42 #[.pointer (some ⟨L, 0, none⟩)] w fun e w' => e = .returned (.bool (!down)) ∧ w = w' := by
  have c3 := cell_of h 3
  cases down
  all_goals
    go_enter Try.func42, Try.ntmps42
    go_wp2
    go_ret
    exact ⟨rfl, rfl⟩

/-- The deferred closure: the log's number and whether it is down, by the error. -/
def CloP (L B E : Nat) (file n err : Int) (w : World) (e : Ending) (w' : World) : Prop :=
  e = .returned (.tuple #[]) ∧ Lg w' L B file (if err = 0 then n + 1 else n) (decide (err = 24)) ∧ w'.heap[E]? = w.heap[E]? ∧ ∀ base, KX L base w w'

set_option maxRecDepth 100000 in
set_option maxHeartbeats 2000000 in
theorem clo_calls {w : World} {L B E P : Nat} {file n err : Int} {down : Bool} (hn : -9223372036854775808 ≤ n ∧ n + 1 ≤ 9223372036854775807) (h : Lg w L B file n down) (hE : w.heap[E]? = some (.cells #[.int .i64 err] 24 (0, 0))) (hP : w.heap[P]? = some (.cells #[.pointer (some ⟨L, 0, none⟩)] 65 (0, 0))) (u : FrameMode) :
    CallsD Try.prog 61 #[.pointer (some ⟨E, 0, none⟩), .pointer (some ⟨P, 0, none⟩)] u w fun e u' w' => u' = u ∧ CloP L B E file n err w e w' := by
  have e0 := cell_of hE 0
  have p0 := cell_of hP 0
  have c3 := cell_of h 3
  have f3 := frozen_of h 3
  have hEL : E ≠ L := by rintro rfl; rw [h] at hE; cases hE
  have hPL : P ≠ L := by rintro rfl; rw [h] at hP; cases hP
  have HP := Lib.hid (fun (e : Ending) (w' : World) (hh : e = .returned (.tuple #[]) ∧ Lg w' L B file (if err = 0 then n + 1 else n) (decide (err = 24)) ∧ w'.heap[E]? = w.heap[E]? ∧ ∀ base, KX L base w w') => (show CloP L B E file n err w e w' from hh))
  generalize CloP L B E file n err w = Post at HP ⊢
  obtain ⟨h1, h2⟩ := hn
  by_cases h0 : err = 0
  · subst h0
    have s1 := heap_set h 3 (.bool false)
    have hE1 := Below.heap_setCell w ⟨L, 3, none⟩ (.bool false) E hEL
    have hP1 := Below.heap_setCell w ⟨L, 3, none⟩ (.bool false) P hPL
    have e1 := cell_of (hE1.trans hE) 0
    have p1 := cell_of (hP1.trans hP) 0
    have l2 := cell_of s1 2
    have f2 := frozen_of s1 2
    have s2 := heap_set s1 2 (.int .i64 (n + 1))
    have hE2 := Below.heap_setCell (w.setCell ⟨L, 3, none⟩ (.bool false)) ⟨L, 2, none⟩ (.int .i64 (n + 1)) E hEL
    have S2 := Lib.hid s2
    have HE2 := Lib.hid (hE2.trans hE1)
    clear s1 s2 hE hE1 hE2 hP hP1 h hEL hPL
    go_enter_d Try.func61, Try.ntmps61
    go_wp2
    go_end0
    refine HP.out _ _ ?_
    exact ⟨rfl, S2.out, HE2.out, fun _ => (kx_set _ _ _ _ _).trans (kx_set _ _ _ _ _)⟩
  · have hb0 : (err == 0) = false := by simpa using h0
    rw [if_neg h0] at HP
    clear h0
    by_cases h24 : err = 24
    · subst h24
      have s1 := heap_set h 3 (.bool true)
      have hE1 := Below.heap_setCell w ⟨L, 3, none⟩ (.bool true) E hEL
      have hP1 := Below.heap_setCell w ⟨L, 3, none⟩ (.bool true) P hPL
      have e1 := cell_of (hE1.trans hE) 0
      have p1 := cell_of (hP1.trans hP) 0
      have l2 := cell_of s1 2
      have f2 := frozen_of s1 2
      have S2 := Lib.hid s1
      have HE2 := Lib.hid hE1
      clear s1 hE hE1 hP hP1 h hEL hPL
      go_enter_d Try.func61, Try.ntmps61
      go_wp2
      go_end0
      refine HP.out _ _ ?_
      exact ⟨rfl, S2.out, HE2.out, fun _ => kx_set _ _ _ _ _⟩
    · have hb24 : (err == 24) = false := by simpa using h24
      rw [decide_eq_false h24] at HP
      clear h24
      have s1 := heap_set h 3 (.bool false)
      have hE1 := Below.heap_setCell w ⟨L, 3, none⟩ (.bool false) E hEL
      have hP1 := Below.heap_setCell w ⟨L, 3, none⟩ (.bool false) P hPL
      have e1 := cell_of (hE1.trans hE) 0
      have p1 := cell_of (hP1.trans hP) 0
      have l2 := cell_of s1 2
      have f2 := frozen_of s1 2
      have S2 := Lib.hid s1
      have HE2 := Lib.hid hE1
      clear s1 hE hE1 hP hP1 h hEL hPL
      go_enter_d Try.func61, Try.ntmps61
      go_wp2
      go_end0
      refine HP.out _ _ ?_
      exact ⟨rfl, S2.out, HE2.out, fun _ => kx_set _ _ _ _ _⟩

/-- What a log's Append does: the error, the disk, the number, whether the log is down. -/
def lapD (d : Dsk) (file n : Int) (down : Bool) (bs : List Int) : Int × Dsk × Int × Bool :=
  if 65536 < bs.length then (4, d, n, down)
  else if down = true then (24, d, n, true)
  else if (appendD d file (frameL n bs)).1 = 0 then ((syncD (appendD d file (frameL n bs)).2).1, (syncD (appendD d file (frameL n bs)).2).2, if (syncD (appendD d file (frameL n bs)).2).1 = 0 then n + 1 else n, decide ((syncD (appendD d file (frameL n bs)).2).1 = 24))
  else ((appendD d file (frameL n bs)).1, (appendD d file (frameL n bs)).2, n, decide ((appendD d file (frameL n bs)).1 = 24))

/-- What a log's Append leaves. -/
def LapP (D : Nat → Prop) (B L : Nat) (file : Int) (r : Int × Dsk × Int × Bool) (w : World) (e : Ending) (w' : World) : Prop :=
  e = .returned (.int .i64 r.1) ∧ Lg w' L B file r.2.2.1 r.2.2.2 ∧ ∃ D', Dk w' D' B r.2.1 ∧ (∀ k, D k → D' k) ∧ (∀ k, D' k → D k ∨ (w.heap.size ≤ k)) ∧ ¬ D' L ∧ KD (fun k => D k ∨ k = L) w w'


set_option maxRecDepth 100000 in
set_option maxHeartbeats 1000000 in
/-- Where the body ends: the closure is still to be called. -/
theorem lap_door {W : World} {L B E P : Nat} {file n err : Int} {down : Bool} (hn : -9223372036854775808 ≤ n ∧ n + 1 ≤ 9223372036854775807) (h : Lg W L B file n down) (hE : W.heap[E]? = some (.cells #[.int .i64 err] 24 (0, 0))) (hP : W.heap[P]? = some (.cells #[.pointer (some ⟨L, 0, none⟩)] 65 (0, 0)))
    {tmps : Array Value} (h4 : tmps.getD 4 undef = .pointer (some ⟨E, 0, none⟩)) (Q : Ending → World → Prop)
    (hQ : ∀ w', Lg w' L B file (if err = 0 then n + 1 else n) (decide (err = 24)) → (∀ base, KX L base W w') → Q (.returned (.int .i64 err)) w') :
    bodyPostD Try.prog Try.f38 Q Exit.ret { tmps := tmps, defers := [{ target := Target.fn (Fn.func 61) #[.pointer (some ⟨E, 0, none⟩), .pointer (some ⟨P, 0, none⟩)], args := #[] }] } W := by
  refine leaves_cons (f := 61) (args := #[.pointer (some ⟨E, 0, none⟩), .pointer (some ⟨P, 0, none⟩)]) (by simp) (by simp [go_sem]) ?_
  refine (clo_calls hn h hE hP .returning).mono ?_
  rintro e u' w' ⟨rfl, rfl, hL', hE', hk⟩
  have e0 := cell_of (hE'.trans hE) 0
  refine ⟨.int .i64 err, ?_, hQ w' hL' hk⟩
  simp at h4 e0
  simp [results, Try.results38, go_sem, h4, e0]

set_option maxRecDepth 100000 in
set_option maxHeartbeats 4000000 in
theorem lap_calls (D : Nat → Prop) (B L : Nat) (d : Dsk) (hd : DOk d) (file n : Int) (down : Bool) (hf : -9223372036854775808 ≤ file ∧ file ≤ 9223372036854775807) (hn : -9223372036854775808 ≤ n ∧ n + 1 ≤ 9223372036854775807)
    (A : Option Addr) (c : Nat) (bs : List Int) (hb255 : ∀ x ∈ bs, 0 ≤ x ∧ x ≤ 255) (w : World) (h : Dk w D B d) (hL : Lg w L B file n down) (hLD : ¬ D L) (hC : Kd.C (Kd.int .u8) w A bs.length bs) :
    Calls Try.prog 38 #[.pointer (some ⟨L, 0, none⟩), .slice A bs.length c] w (LapP D B L file (lapD d file n down bs) w) := by
  have hmf : ∀ (fn : Fn) (first cap : Array Value) (w : World), (Instr.makeFunc fn first cap).run Try.prog w = .ok (.func fn first cap) w := fun _ _ _ _ => rfl
  have H := Lib.hid h
  have hlL := lt_of hL
  have hD1 : D B := by obtain ⟨_, _, _, _, _, h1, _, _⟩ := h; exact h1
  have hD3 : ∀ k, D k → k < w.heap.size := by obtain ⟨_, _, _, _, _, _, _, h3⟩ := h; exact h3
  have HP := Lib.hid (fun (r : Int × Dsk × Int × Bool) (e : Ending) (w' : World) (hh : e = .returned (.int .i64 r.1) ∧ Lg w' L B file r.2.2.1 r.2.2.2 ∧ ∃ D', Dk w' D' B r.2.1 ∧ (∀ k, D k → D' k) ∧ (∀ k, D' k → D k ∨ (w.heap.size ≤ k)) ∧ ¬ D' L ∧ KD (fun k => D k ∨ k = L) w w') => (show LapP D B L file r w e w' from hh))
  generalize LapP D B L file = Post at HP ⊢
  have hBA : Below w.heap.size w ((w.alloc (.cells #[.pointer (some ⟨L, 0, none⟩)] 65)).alloc (.cells #[.int .i64 0] 24)) := ((Below.refl _ w).alloc (Nat.le_refl _) _).alloc (by simp) _
  have hPA : ((w.alloc (.cells #[.pointer (some ⟨L, 0, none⟩)] 65)).alloc (.cells #[.int .i64 0] 24)).heap[w.heap.size]? = some (.cells #[.pointer (some ⟨L, 0, none⟩)] 65 (0, 0)) := (heap_alloc_old _ _ _ (by simp)).trans (World.alloc_heap_new w _)
  have hEA := World.alloc_heap_new (w.alloc (.cells #[.pointer (some ⟨L, 0, none⟩)] 65)) (.cells #[.int .i64 0] 24)
  rw [World.size_alloc] at hEA
  have hszA : ((w.alloc (.cells #[.pointer (some ⟨L, 0, none⟩)] 65)).alloc (.cells #[.int .i64 0] 24)).heap.size = w.heap.size + 2 := by simp
  unfold lapD
  by_cases hbig : 65536 < bs.length
  · rw [if_pos hbig]
    have hbig' : (65536 : Int) < (bs.length : Int) := by omega
    have HBA2 := Lib.hid (((Below.refl _ w).alloc (Nat.le_refl _) (.cells #[.pointer (some ⟨L, 0, none⟩)] 65)).alloc (by simp) (.cells #[.int .i64 4] 24))
    have HL := Lib.hid hL
    clear hbig h hBA hPA hEA hszA hL
    go_enter_defers Try.func38, Try.ntmps38
    go_wp2
    refine ⟨.int .i64 4, ?_, HP.out _ _ _ ⟨rfl, (HBA2.out.block L hlL).trans HL.out, D, H.out.grow HBA2.out, fun _ h => h, fun _ h => .inl h, hLD, KD.of_below HBA2.out⟩⟩
    simp [results, Try.results38, go_sem]
  · rw [if_neg hbig]
    have hbig' : (bs.length : Int) ≤ 65536 := by omega
    have hcL := (fun (W : World) (h : Below w.heap.size w W) => cell_of ((h.block L hlL).trans hL))
    cases down with
    | true =>
      rw [if_pos rfl]
      have hc3 := hcL _ hBA 3
      have hP0 := cell_of hPA 0
      have HBA2 := Lib.hid (((Below.refl _ w).alloc (Nat.le_refl _) (.cells #[.pointer (some ⟨L, 0, none⟩)] 65)).alloc (by simp) (.cells #[.int .i64 24] 24))
      have HL := Lib.hid hL
      have HCL := Lib.hid hcL
      have HEN := Lib.hid (World.alloc_heap_new (w.alloc (.cells #[.pointer (some ⟨L, 0, none⟩)] 65)) (.cells #[.int .i64 24] 24))
      have HPN := Lib.hid ((heap_alloc_old (w.alloc (.cells #[.pointer (some ⟨L, 0, none⟩)] 65)) (.cells #[.int .i64 24] 24) w.heap.size (by simp)).trans (World.alloc_heap_new w _))
      clear hbig h hBA hPA hEA hszA hL hcL
      go_enter_defers Try.func38, Try.ntmps38
      go_wp2
      have hen := HEN.out
      rw [World.size_alloc] at hen
      refine lap_door hn ((HBA2.out.block L hlL).trans HL.out) hen HPN.out rfl _ (fun w' hL' hk => ?_)
      exact HP.out _ _ _ ⟨rfl, hL', D, (H.out.grow HBA2.out).kx hLD hk, fun _ h => h, fun _ h => .inl h, hLD, (KD.of_below HBA2.out).trans (KD.of_kx (hk _) (.inr rfl) (NoU8.cells ((HBA2.out.block L hlL).trans HL.out) (by decide)))⟩
    | false =>
      have hfl := frameL_length n (by omega) bs (by omega)
      have hfb := frameL_byte n bs hb255
      have HFR := Lib.hid (fun (W : World) (h : Kd.C (Kd.int .u8) W A bs.length bs) => Frame.frame_calls n (by omega) A c bs hb255 (by omega) W h)
      generalize frameL n bs = fr at hfl hfb HFR ⊢
      have HAP := Lib.hid (fun (A2 : Option Addr) (c2 : Nat) (W : World) (h : Dk W D B d) (hC : Kd.C (Kd.int .u8) W A2 fr.length fr) => append_calls D B d file hf hd.left hd.room hd.used' A2 c2 fr (by omega) W h hC)
      have HDA := Lib.hid (hd.append file hfb)
      rw [if_neg (by simp)]
      generalize appendD d file fr = r1 at HAP HDA ⊢
      obtain ⟨e1, d1⟩ := r1
      simp only at HAP HDA ⊢
      have HSY := Lib.hid (fun (D' : Nat → Prop) (W : World) (h : Dk W D' B d1) => sync_calls D' B d1 HDA.out.left W h)
      generalize hWA : (w.alloc (.cells #[.pointer (some ⟨L, 0, none⟩)] 65)).alloc (.cells #[.int .i64 0] 24) = WA at hBA hPA hEA hszA
      have hc0 := hcL WA hBA 0
      have hc1 := hcL WA hBA 1
      have hc2 := hcL WA hBA 2
      have hc3 := hcL WA hBA 3
      have hP0 := cell_of hPA 0
      have gc0 := hc0
      have gc1 := hc1
      have gc2 := hc2
      have gP0 := hP0
      rw [← hWA] at hc3 hP0
      clear hc0 hc1 hc2
      have HWA := Lib.hid hWA
      have HBA := Lib.hid hBA
      have HPA := Lib.hid hPA
      have HEA := Lib.hid hEA
      have HL := Lib.hid hL
      have HC := Lib.hid hC
      have HCL := Lib.hid hcL
      clear hWA hBA hPA hEA hL hC h hfb hcL
      by_cases he1 : e1 = 0
      · subst he1
        rw [if_pos rfl]
        generalize syncD d1 = r2 at HSY ⊢
        obtain ⟨e2, d2⟩ := r2
        simp only at HSY ⊢
        have HPQ := Lib.hid (HP.out (e2, d2, if e2 = 0 then n + 1 else n, decide (e2 = 24)))
        simp only at HPQ
        generalize Post (e2, d2, if e2 = 0 then n + 1 else n, decide (e2 = 24)) = PQ at HPQ ⊢
        go_enter_defers Try.func38, Try.ntmps38
        go_wp2
        rw [HWA.out]
        go_region_held3 (fun w' => w'.cell? ⟨w.heap.size, 0, none⟩ = some (.pointer (some ⟨L, 0, none⟩)) ∧ w'.cell? ⟨L, 0, none⟩ = some (.pointer (some ⟨B, 0, none⟩)) ∧ w'.cell? ⟨L, 1, none⟩ = some (.int .i64 file) ∧ w'.cell? ⟨L, 2, none⟩ = some (.int .i64 n))
          (first | exact ⟨p3, z0, z1, z2⟩ | exact ⟨q0, l0, l1, l2⟩ | exact ⟨gP0, gc0, gc1, gc2⟩)
          (first
          | (go_at_call 62; refine (HFR.out _ (Kd.C_below HC.out (below_drew HBA.out))).mono ?_; rintro e w2 ⟨v2, rfl, hR2, hB2⟩; obtain ⟨A2, c2, rfl, hcc2, hC2⟩ := Kd.R_reads hR2; have hBw2 := (below_drew HBA.out).trans (hB2.mono (below_drew HBA.out).size); have q0 := cell_of ((hB2.block w.heap.size (by show _ < WA.heap.size; omega)).trans HPA.out) 0; have l0 := HCL.out w2 hBw2 0; have l1 := HCL.out w2 hBw2 1; have l2 := HCL.out w2 hBw2 2; have HC2 := Lib.hid hC2; have HBW2 := Lib.hid hBw2; have HB2 := Lib.hid hB2; clear hR2 hC2 hB2 hBw2)
          | (go_at_call 16; refine (HAP.out A2 c2 w2 (H.out.grow HBW2.out) HC2.out).mono ?_; rintro e w3 ⟨rfl, D', hdk3, hsub, hnew, hk3⟩; have hsz2 := HBW2.out.size; have hszA2 : w.heap.size + 2 ≤ w2.heap.size := (by have := HB2.out.size; rw [show WA.drew.heap.size = WA.heap.size from rfl] at this; omega); have hP3 := (hk3.block w.heap.size (by omega) (fun e => by have := hD3 _ e; omega)).trans ((HB2.out.block w.heap.size (by show _ < WA.heap.size; omega)).trans HPA.out); have hE3 := (hk3.block (w.heap.size + 1) (by omega) (fun e => by have := hD3 _ e; omega)).trans ((HB2.out.block (w.heap.size + 1) (by show _ < WA.heap.size; omega)).trans HEA.out); have hL3 : Lg w3 L B file n false := (hk3.block L (by omega) hLD).trans ((HBW2.out.block L hlL).trans HL.out); have hk03 : KD D w w3 := (KD.of_below HBW2.out).trans hk3; have hnE : ¬ D' (w.heap.size + 1) := (fun e => (hnew _ e).elim (fun e => by have := hD3 _ e; omega) (fun e => by omega)); have hnP : ¬ D' w.heap.size := (fun e => (hnew _ e).elim (fun e => by have := hD3 _ e; omega) (fun e => by omega)); have hLD3 : ¬ D' L := (fun e => (hnew L e).elim hLD (fun e => by omega)); have hnew0 : ∀ k, D' k → D k ∨ w.heap.size ≤ k := (fun k e => (hnew k e).imp id (fun e => by omega)); have p3 := cell_of hP3 0; have x3 := cell_of hE3 0; have y3 := frozen_of hE3 0; have z0 := cell_of hL3 0; have z1 := cell_of hL3 1; have z2 := cell_of hL3 2; have HP3 := Lib.hid hP3; have HE3 := Lib.hid hE3; have HL3 := Lib.hid hL3; have HK3 := Lib.hid hk03; have HNEW := Lib.hid hnew0; have HSUB := Lib.hid hsub; have HDK3 := Lib.hid hdk3; clear hP3 hE3 hL3 hk03 hnew0 hsub hdk3 hnew hk3))
        all_goals
          go_wp2_with fail
          refine (HSY.out D' w3 HDK3.out).mono ?_
          rintro e w4 ⟨rfl, hd4, hk4⟩
          have hs34 := hk4.size
          have hE4 := (hk4.block (w.heap.size + 1) (lt_of HE3.out) hnE).trans HE3.out
          have hP4 := (hk4.block w.heap.size (lt_of HP3.out) hnP).trans HP3.out
          have hL4 : Lg w4 L B file n false := (hk4.block L (lt_of HL3.out) hLD3).trans HL3.out
          have x4 := cell_of hE4 0
          have y4 := frozen_of hE4 0
          have HE5 := Lib.hid (heap_set hE4 0 (.int .i64 e2))
          have HN4 := Lib.hid (NoU8.cells hE4 (by decide))
          have HP5 := Lib.hid ((Below.heap_setCell w4 ⟨w.heap.size + 1, 0, none⟩ (.int .i64 e2) w.heap.size (fun e => by have : w.heap.size = w.heap.size + 1 := e; omega)).trans hP4)
          have HL5 := Lib.hid (show Lg (w4.setCell ⟨w.heap.size + 1, 0, none⟩ (.int .i64 e2)) L B file n false from (Below.heap_setCell w4 ⟨w.heap.size + 1, 0, none⟩ (.int .i64 e2) L (fun e => by have : L = w.heap.size + 1 := e; omega)).trans hL4)
          have HDK5 := Lib.hid (Dk.out (j := 0) hd4 hnE (.int .i64 e2))
          have HK4 := Lib.hid hk4
          clear hE4 hP4 hL4 hd4 hk4
          go_wp2
          refine lap_door hn HL5.out HE5.out HP5.out rfl _ (fun w' hL' hk => ?_)
          have h1 : KD (fun k => D' k ∨ k = L ∨ k = w.heap.size + 1) w3 w' := (HK4.out.wide (fun _ h => .inl h)).trans ((KD.of_kx (D := fun k => D' k ∨ k = L ∨ k = w.heap.size + 1) (kx_set (w.heap.size + 1) _ 0 w4 (.int .i64 e2)) (.inr (.inr rfl)) HN4.out).trans (KD.of_kx (hk _) (.inr (.inl rfl)) (NoU8.cells HL5.out (by decide))))
          have h2 : KD (fun k => D k ∨ k = L) w w' := (HK3.out.wide (fun _ h => .inl h)).less h1 (fun k hk => hk.elim (fun e => (HNEW.out k e).imp .inl id) (fun e => e.elim (fun e => .inl (.inr e)) (fun e => .inr (by omega))))
          exact HPQ.out _ _ ⟨rfl, hL', D', HDK5.out.kx hLD3 hk, HSUB.out, HNEW.out, hLD3, h2⟩
      · rw [if_neg he1]
        have hb1 : (e1 != 0) = true := by simpa using he1
        have HE1 := Lib.hid he1
        clear he1
        go_enter_defers Try.func38, Try.ntmps38
        go_wp2
        rw [HWA.out]
        go_region_held3 (fun w' => w'.cell? ⟨w.heap.size, 0, none⟩ = some (.pointer (some ⟨L, 0, none⟩)) ∧ w'.cell? ⟨L, 0, none⟩ = some (.pointer (some ⟨B, 0, none⟩)) ∧ w'.cell? ⟨L, 1, none⟩ = some (.int .i64 file) ∧ w'.cell? ⟨L, 2, none⟩ = some (.int .i64 n))
          (first | exact ⟨p3, z0, z1, z2⟩ | exact ⟨q0, l0, l1, l2⟩ | exact ⟨gP0, gc0, gc1, gc2⟩)
          (first
          | (go_at_call 62; refine (HFR.out _ (Kd.C_below HC.out (below_drew HBA.out))).mono ?_; rintro e w2 ⟨v2, rfl, hR2, hB2⟩; obtain ⟨A2, c2, rfl, hcc2, hC2⟩ := Kd.R_reads hR2; have hBw2 := (below_drew HBA.out).trans (hB2.mono (below_drew HBA.out).size); have q0 := cell_of ((hB2.block w.heap.size (by show _ < WA.heap.size; omega)).trans HPA.out) 0; have l0 := HCL.out w2 hBw2 0; have l1 := HCL.out w2 hBw2 1; have l2 := HCL.out w2 hBw2 2; have HC2 := Lib.hid hC2; have HBW2 := Lib.hid hBw2; have HB2 := Lib.hid hB2; clear hR2 hC2 hB2 hBw2)
          | (go_at_call 16; refine (HAP.out A2 c2 w2 (H.out.grow HBW2.out) HC2.out).mono ?_; rintro e w3 ⟨rfl, D', hdk3, hsub, hnew, hk3⟩; have hsz2 := HBW2.out.size; have hszA2 : w.heap.size + 2 ≤ w2.heap.size := (by have := HB2.out.size; rw [show WA.drew.heap.size = WA.heap.size from rfl] at this; omega); have hP3 := (hk3.block w.heap.size (by omega) (fun e => by have := hD3 _ e; omega)).trans ((HB2.out.block w.heap.size (by show _ < WA.heap.size; omega)).trans HPA.out); have hE3 := (hk3.block (w.heap.size + 1) (by omega) (fun e => by have := hD3 _ e; omega)).trans ((HB2.out.block (w.heap.size + 1) (by show _ < WA.heap.size; omega)).trans HEA.out); have hL3 : Lg w3 L B file n false := (hk3.block L (by omega) hLD).trans ((HBW2.out.block L hlL).trans HL.out); have hk03 : KD D w w3 := (KD.of_below HBW2.out).trans hk3; have hnE : ¬ D' (w.heap.size + 1) := (fun e => (hnew _ e).elim (fun e => by have := hD3 _ e; omega) (fun e => by omega)); have hnP : ¬ D' w.heap.size := (fun e => (hnew _ e).elim (fun e => by have := hD3 _ e; omega) (fun e => by omega)); have hLD3 : ¬ D' L := (fun e => (hnew L e).elim hLD (fun e => by omega)); have hnew0 : ∀ k, D' k → D k ∨ w.heap.size ≤ k := (fun k e => (hnew k e).imp id (fun e => by omega)); have p3 := cell_of hP3 0; have x3 := cell_of hE3 0; have y3 := frozen_of hE3 0; have z0 := cell_of hL3 0; have z1 := cell_of hL3 1; have z2 := cell_of hL3 2; have HP3 := Lib.hid hP3; have HE3 := Lib.hid hE3; have HL3 := Lib.hid hL3; have HK3 := Lib.hid hk03; have HNEW := Lib.hid hnew0; have HSUB := Lib.hid hsub; have HDK3 := Lib.hid hdk3; clear hP3 hE3 hL3 hk03 hnew0 hsub hdk3 hnew hk3))
        all_goals
          have hE4 := heap_set HE3.out 0 (.int .i64 e1)
          have hP4 := (Below.heap_setCell w3 ⟨w.heap.size + 1, 0, none⟩ (.int .i64 e1) w.heap.size (fun e => by have : w.heap.size = w.heap.size + 1 := e; omega)).trans HP3.out
          have hL4 : Lg (w3.setCell ⟨w.heap.size + 1, 0, none⟩ (.int .i64 e1)) L B file n false := (Below.heap_setCell w3 ⟨w.heap.size + 1, 0, none⟩ (.int .i64 e1) L (fun e => by have : L = w.heap.size + 1 := e; omega)).trans HL3.out
          have hdk4 : Dk (w3.setCell ⟨w.heap.size + 1, 0, none⟩ (.int .i64 e1)) D' B d1 := Dk.out HDK3.out hnE _
          have HE4 := Lib.hid hE4
          have HP4 := Lib.hid hP4
          have HL4 := Lib.hid hL4
          have HDK4 := Lib.hid hdk4
          clear hE4 hP4 hL4 hdk4
          go_wp2
          refine lap_door hn HL4.out HE4.out HP4.out rfl _ (fun w' hL' hk => ?_)
          have h1 : KD (fun k => D k ∨ k = L) w w' := (HK3.out.wide (fun _ h => .inl h)).less ((KD.of_kx (D := fun k => (D k ∨ k = L) ∨ k = w.heap.size + 1) (kx_set (w.heap.size + 1) _ 0 w3 (.int .i64 e1)) (.inr rfl) (NoU8.cells HE3.out (by decide))).trans (KD.of_kx (hk _) (.inl (.inr rfl)) (NoU8.cells HL4.out (by decide)))) (fun k hk => hk.elim .inl (fun e => .inr (by omega)))
          rw [if_neg HE1.out] at hL'
          exact HP.out _ _ _ ⟨rfl, hL', D', HDK4.out.kx hLD3 hk, HSUB.out, HNEW.out, hLD3, h1⟩

end Go.Proofs.Ytjnbbmiccbjjbaa.Jnl
