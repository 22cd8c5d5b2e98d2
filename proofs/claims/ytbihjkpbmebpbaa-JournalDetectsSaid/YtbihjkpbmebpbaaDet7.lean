/- refuterlaw07.JournalDetects: it returns true. -/
import Derived.Test.YtbihjkpbmebpbaaSc7
import Derived.Test.YtbihjkpbmebpbaaDetP
namespace Go.Proofs.Ytbihjkpbmebpbaa.Det7
open Go.RowKit Go.Proofs Go.Proofs.Ytbihjkpbmebpbaa.Ma Go.Proofs.Ytbihjkpbmebpbaa.Wire Go.Proofs.Ytbihjkpbmebpbaa.Rdr Go.Proofs.Ytbihjkpbmebpbaa.Scan Go.Proofs.Ytbihjkpbmebpbaa.Ref01 Go.Proofs.Ytbihjkpbmebpbaa.Ref07 Go.Proofs.Ytbihjkpbmebpbaa.Lives7 Go.Proofs.YtbihjkpbmebpbaaW.PrintWords Go.Proofs.YtbihjkpbmebpbaaW.PrintLast

set_option maxHeartbeats 1000000 in
theorem end_calls (B : Nat) (w : World) (h : Rdr w B [] 0) :
    Calls Try.prog 24 #[.pointer (some ⟨B, 0, none⟩)] w fun e w' => e = .returned (.int .i64 0) ∧ w = w' := by
  obtain ⟨A, cap, wB, h1, h2, h3, h4, h5⟩ := h
  have c0 := cell_of h1 0
  have c1 := cell_of h1 1
  go_enter Try.func24, Try.ntmps24
  go_wp2
  go_ret
  exact ⟨rfl, rfl⟩

theorem flip_byte (z : Int) (hz : 0 ≤ z ∧ z ≤ 255) (m : Nat) (hm : m < 8) : (0 ≤ bits .xor .u8 z (2 ^ m % 256) ∧ bits .xor .u8 z (2 ^ m % 256) ≤ 255) ∧ bits .xor .u8 z (2 ^ m % 256) ≠ z := by
  obtain ⟨x, rfl⟩ := Int.eq_ofNat_of_zero_le hz.1
  have h : ∀ a : Fin 256, ∀ k : Fin 8, (0 ≤ bits .xor .u8 ((a.val : Nat) : Int) (2 ^ k.val % 256) ∧ bits .xor .u8 ((a.val : Nat) : Int) (2 ^ k.val % 256) ≤ 255) ∧ bits .xor .u8 ((a.val : Nat) : Int) (2 ^ k.val % 256) ≠ ((a.val : Nat) : Int) := by decide +kernel
  exact h ⟨x, by omega⟩ ⟨m, hm⟩

set_option maxRecDepth 100000 in
set_option maxHeartbeats 4000000 in
theorem detects_law (w : World) (A0 : Option Addr) (c0 : Nat) (b : List Int) (h0 : Kd.C (Kd.int .u8) w A0 b.length b) (hb : ∀ x ∈ b, 0 ≤ x ∧ x ≤ 255) (_ : b.length ≤ 140737488351232) (hc0 : b.length ≤ c0)
    (bit : Int) (hbit : -9223372036854775808 ≤ bit ∧ bit ≤ 9223372036854775807) :
    Calls Try.prog 5 #[.slice A0 b.length c0, .int .i64 bit] w fun e w' => e = .returned (.bool true) ∧ Below w.heap.size w w' := by
  have HFEW := Lib.hid (few_calls A0 c0 b 200 (by omega) hc0 w h0)
  have hob : ∀ x ∈ b.take 200, 0 ≤ x ∧ x ≤ 255 := fun x hx => hb x (List.mem_of_mem_take hx)
  have hol : (b.take 200).length ≤ 200 := by rw [List.length_take]; omega
  generalize b.take 200 = own at HFEW hob hol
  have hcl := coreL_length 0 (by decide) own (by omega)
  have hcb := coreL_byte 0 own hob
  have hfl := frameL_length 0 (by decide) own (by omega)
  have hfb := frameL_byte 0 own hob
  have hh := bytesN_lt entryS (coreL 0 own)
  have hvl := vint_length (coreL 0 own).length (by omega)
  have hvp := vint_pos (coreL 0 own).length
  have hvp2 := vint_pos (bytesN entryS (coreL 0 own))
  have hfd : (frameL 0 own).length = (vint (coreL 0 own).length).length + (coreL 0 own).length + (vint (bytesN entryS (coreL 0 own))).length := by simp [frameL, rawL, Nat.add_assoc]
  have hgt : (vint (coreL 0 own).length).length < (frameL 0 own).length := by omega
  have HFD := Lib.hid hfd
  clear hfd
  have HCORE := Lib.hid (show vint (zz 0) ++ rawL own = coreL 0 own from rfl)
  have HBH := Lib.hid (bytesN_eq entryS (coreL 0 own))
  have HT := Lib.hid (fun p y => scan_turned own p y hob (by omega))
  have HONE := Lib.hid (scan_one own (by omega))
  have hraw : rdRaw (frameL 0 own) 0 = (coreL 0 own, vint (bytesN entryS (coreL 0 own)), 0) := rdRaw_rawL _ _ (by omega)
  have HRAW := Lib.hid (fun B w h => Rdr.raw_calls B (frameL 0 own) 0 hfb (by omega) w h)
  rw [hraw] at HRAW
  have hun : rdUint (vint (bytesN entryS (coreL 0 own))) 0 = (bytesN entryS (coreL 0 own), [], 0) := by have := rdUint_vint _ hh []; rwa [List.append_nil] at this
  have HUNT := Lib.hid (fun B w h => Rdr.uint_calls B (vint (bytesN entryS (coreL 0 own))) 0 (vint_byte _) w h)
  rw [hun] at HUNT
  have HFR := Lib.hid (fun A c w h => Frame.frame_calls 0 (by decide) A c own hob (by omega) w h)
  have HBY := Lib.hid (fun A c w h => Hash.bytes_calls entryS (by decide) A c (coreL 0 own) hcb (by omega) w h)
  rw [HBH.out] at HBY
  clear hraw hun h0 hb
  generalize bytesN entryS (coreL 0 own) = hsh at *
  generalize frameL 0 own = f at *
  generalize coreL 0 own = c at *
  generalize hvi : vint c.length = vi at *
  have HVI := Lib.hid hvi
  have HOB := Lib.hid hob
  have HFB := Lib.hid hfb
  have HCB := Lib.hid hcb
  clear hvi hob hfb hcb
  go_enter Try.func5, Try.ntmps5
  go_wp2_with fail
  refine HFEW.out.mono ?_
  rintro e w1 ⟨v1, rfl, hR1, hB1⟩
  obtain ⟨A1, c1, rfl, hc1, hC1⟩ := Kd.R_reads hR1
  have HC1 := Lib.hid hC1
  clear hR1 hC1
  go_wp2_with fail
  refine (HFR.out A1 c1 w1 HC1.out).mono ?_
  rintro e w2 ⟨v2, rfl, hR2, hB2⟩
  obtain ⟨Af, cf, rfl, hcf, hCf⟩ := Kd.R_reads hR2
  have HCF := Lib.hid hCf
  have hb2 : Below w.heap.size w w2 := hB1.trans (hB2.mono hB1.size)
  have HC2 := Lib.hid (Kd.C_below HC1.out hB2)
  clear hR2 hCf HC1 hB1 hB2
  have hbx := Boxed.new w2 37 (.slice none 0 0)
  have hs3 : (w2.alloc (.cells #[.slice none 0 0] 37)).heap.size = w2.heap.size + 1 := by simp
  have hb23 : Below w2.heap.size w2 (w2.alloc (.cells #[.slice none 0 0] 37)) := (Below.refl _ _).alloc (Nat.le_refl _) _
  go_wp2_with fail
  generalize (w2.alloc (.cells #[.slice none 0 0] 37)) = W3 at hbx hs3 hb23 ⊢
  refine (Wire.int_calls w2.heap.size W3.heap.size [] 0 (by decide) W3 (Wtr.nil hbx) (Nat.le_refl _) (by decide)).mono ?_
  rintro e W4 ⟨rfl, hw4, hk4⟩
  have hb4 : Below w2.heap.size w2 W4 := hb23.trans (hk4.below (by omega) (Nat.le_refl _))
  have hs4 := hk4.size
  clear hk4 hbx
  go_wp2_with fail
  refine (Wire.raw_calls w2.heap.size W3.heap.size _ A1 c1 own HOB.out W4 hw4 (by omega) (Kd.C_below HC2.out hb4) (by have := vint_length (zz 0) (by decide); simp only [List.nil_append]; omega)).mono ?_
  rintro e W5 ⟨rfl, hw5, hk5⟩
  have hb5 : Below w2.heap.size w2 W5 := hb4.trans (hk5.below (by omega) (Nat.le_refl _))
  rw [List.nil_append, HCORE.out] at hw5
  have hs5 := hk5.size
  clear hw4 hk5
  go_wp2_with fail
  refine (done_calls w2.heap.size W3.heap.size c W5 hw5 (by omega)).mono ?_
  rintro e W6 ⟨v6, rfl, hR6, hB6⟩
  obtain ⟨Ac, cc, rfl, hcc, hCc⟩ := Kd.R_reads hR6
  have hb6 : Below w2.heap.size w2 W6 := hb5.trans (hB6.mono (by omega))
  have hs6 := hB6.size
  have HCC := Lib.hid hCc
  have HF6 := Lib.hid (Kd.C_below HCF.out hb6)
  have hb6' : Below w.heap.size w W6 := hb2.trans (hb6.mono hb2.size)
  clear hR6 hCc hw5 hB6 HCF HC2
  have hbx7 := Boxed.new W6 37 (.slice none 0 0)
  have hs7 : (W6.alloc (.cells #[.slice none 0 0] 37)).heap.size = W6.heap.size + 1 := by simp
  have hb67 : Below W6.heap.size W6 (W6.alloc (.cells #[.slice none 0 0] 37)) := (Below.refl _ _).alloc (Nat.le_refl _) _
  go_wp2_with fail
  generalize (W6.alloc (.cells #[.slice none 0 0] 37)) = W7 at hbx7 hs7 hb67 ⊢
  refine (Wire.uint_calls W6.heap.size W7.heap.size [] c.length (by omega) W7 (Wtr.nil hbx7) (Nat.le_refl _) (by decide)).mono ?_
  rintro e W8 ⟨rfl, hw8, hk8⟩
  rw [List.nil_append, HVI.out] at hw8
  have hb8 : Below W6.heap.size W6 W8 := hb67.trans (hk8.below (by omega) (Nat.le_refl _))
  have hs8 := hk8.size
  clear hk8 hbx7
  go_wp2_with fail
  refine (done_calls W6.heap.size W7.heap.size vi W8 hw8 (by omega)).mono ?_
  rintro e W9 ⟨v9, rfl, hR9, hB9⟩
  obtain ⟨A9, c9, rfl, _, _⟩ := Kd.R_reads hR9
  have hb9 : Below W6.heap.size W6 W9 := hb8.trans (hB9.mono (by omega))
  have hw9 := hw8.below hB9
  have hs9 := hB9.size
  clear hR9 hw8 hB9
  go_wp2_with fail
  refine (Wire.raw_calls W6.heap.size W7.heap.size vi Ac cc c HCB.out W9 hw9 (by omega) (Kd.C_below HCC.out hb9) (by omega)).mono ?_
  rintro e W10 ⟨rfl, hw10, hk10⟩
  have hb10 : Below W6.heap.size W6 W10 := hb9.trans (hk10.below (by omega) (Nat.le_refl _))
  have hb10' : Below w.heap.size w W10 := hb6'.trans (hb10.mono hb6'.size)
  have HF10 := Lib.hid (Kd.C_below HF6.out hb10)
  have HCC10 := Lib.hid (Kd.C_below HCC.out hb10)
  clear hw9 hw10 hk10 HF6 HCC
  go_wp2_with fail
  refine (around_calls bit (8 * ((f.length : Int) - vi.length)) hbit (by omega) W10).mono ?_
  rintro e W11 ⟨r, rfl, hr, rfl⟩
  go_wp2_with fail
  refine (few_calls Af cf f f.length (by omega) hcf W10 HF10.out).mono ?_
  rintro e W12 ⟨v12, rfl, hR12, hB12⟩
  rw [List.take_length] at hR12
  obtain ⟨A12, c12, rfl, hc12, _⟩ := Kd.R_reads hR12
  obtain ⟨g, rfl⟩ := Sc7.row_block (Kd.own_of_R hR12) (by omega)
  have hq : vi.length + r / 8 < f.length := by omega
  have hbyte := HFB.out f[vi.length + r / 8] (List.getElem_mem hq)
  obtain ⟨hcl12, hfz12⟩ := Kd.R_cell (0 : Int) hR12 ((vi.length + r / 8 : Nat) : Int) (by omega) (by omega)
  have hP := fun y => Kd.R_put hR12 ((vi.length + r / 8 : Nat) : Int) y
  have hrd : rdOf (0 : Int) f ((vi.length + r / 8 : Nat) : Int) = f[vi.length + r / 8] := by unfold rdOf; rw [Int.toNat_natCast, List.getD_eq_getElem?_getD, List.getElem?_eq_getElem hq]; rfl
  rw [hrd] at hcl12
  rw [Int.toNat_natCast] at hcl12 hfz12 hP
  have HP := Lib.hid hP
  have HTT := Lib.hid (fun y h1 h2 => HT.out (vi.length + r / 8) y (by omega) hq h1 h2)
  generalize f[vi.length + r / 8] = z at hbyte hcl12 HTT
  have hbd1 : (0 : Int) ≤ (vi.length : Int) + (r : Int) / 8 := by omega
  have hbd2 : (vi.length : Int) + (r : Int) / 8 < (f.length : Int) := by omega
  have HR12 := Lib.hid hR12
  clear hP hR12 hrd
  go_wp2_with fail
  obtain ⟨hy1, hy2⟩ := flip_byte z hbyte (r % 8) (by omega)
  generalize bits .xor .u8 z (2 ^ (r % 8) % 256) = y at hy1 hy2 ⊢
  obtain ⟨hR13, hg13⟩ := HP.out y
  have hsc := HTT.out y hy1 hy2
  have hTl : (f.set (vi.length + r / 8) y).length = f.length := List.length_set
  have hTb := Sc7.set_byte (i := vi.length + r / 8) HFB.out hy1
  have hB13 : Below W10.heap.size W10 (W12.setCell ⟨g, vi.length + r / 8, none⟩ (.int .u8 y)) := hB12.grown hg13 hB12.size (fun k e => by cases e; exact own_base (Kd.own_of_R HR12.out) g rfl)
  obtain ⟨A13, c13, e, hc13, hC13⟩ := Kd.R_reads hR13
  injection e with e1 e2 e3
  subst e1 e3
  clear e2 hR13 hg13 hcl12 hfz12 HP HR12 HTT hbyte hy1 hy2 hB12 hc13
  generalize f.set (vi.length + r / 8) y = T at hTl hTb hsc hC13
  generalize W12.setCell ⟨g, vi.length + r / 8, none⟩ (.int .u8 y) = W13 at hB13 hC13 ⊢
  have HF13 := Lib.hid (Kd.C_below HF10.out hB13)
  have hSC := scan_calls_n (some ⟨g, 0, none⟩) c12 f.length T hTl hTb (by omega) (by omega) W13 hC13
  rw [hsc, show endL [] = 0 from rfl] at hSC
  have HSC := Lib.hid hSC
  have HSF := Lib.hid (fun (A : Option Addr) (cap : Nat) (W : World) (h : f.length ≤ cap) (hC : Kd.C (Kd.int .u8) W A f.length f) => scan_calls_n A cap f.length f rfl HFB.out (by omega) h W hC)
  obtain ⟨ho1, ho2⟩ := HONE.out
  rw [show endL (scanR (f.length + 1) 0 0 f) = (f.length : Int) from ho2, ho1] at HSF
  clear hsc hSC hC13 hTb hTl ho1 ho2 HF10
  refine HSC.out.mono ?_
  rintro e W14 ⟨v14, rfl, hR14, hB14⟩
  obtain ⟨A14, c14, rfl, _, _⟩ := Kd.R_reads hR14
  have hB15 : Below W10.heap.size W10 W14 := hB13.trans (hB14.mono hB13.size)
  have HF14 := Lib.hid (Kd.C_below HF13.out hB14)
  clear hR14 hB14 HSC
  simp only [List.map_nil, List.length_nil]
  go_wp2_with fail
  refine (HSF.out Af cf W14 hcf HF14.out).mono ?_
  rintro e W16 ⟨v16, rfl, hR16, hB16⟩
  obtain ⟨A16, c16, rfl, _, _⟩ := Kd.R_reads hR16
  have hB17 : Below W10.heap.size W10 W16 := hB15.trans (hB16.mono hB15.size)
  have HF16 := Lib.hid (Kd.C_below HF14.out hB16)
  clear hR16 hB16
  simp only [List.length_cons, List.length_nil]
  go_wp2_with fail
  refine (read_calls Af cf f W16 HF16.out (by omega)).mono ?_
  rintro e W18 ⟨Br, rfl, hBr, hr18, hB18⟩
  have hB19 : Below W10.heap.size W10 W18 := hB17.trans (hB18.mono hB17.size)
  clear hB18
  go_wp2_with fail
  refine (HRAW.out Br W18 hr18).mono ?_
  rintro e W20 ⟨v20, rfl, hR20, hr20, hk20⟩
  obtain ⟨A20, c20, rfl, _, _⟩ := Kd.R_reads hR20
  have hB21 : Below W10.heap.size W10 W20 := hB19.trans (hk20.below hB19.size (Nat.le_trans hB17.size hBr))
  have ho20 := Kd.own_of_R hR20
  have hBl := hr18.lt
  clear hR20 hr18 hk20
  go_wp2_with fail
  refine (HUNT.out Br W20 hr20).mono ?_
  rintro e W22 ⟨rfl, hr22, hk22⟩
  have hB23 : Below W10.heap.size W10 W22 := hB21.trans (hk22.below hB21.size (Nat.le_trans hB17.size hBr))
  have hin : Kd.C (Kd.int .u8) W22 A20 c.length c := by
    have ho := own_move ho20 (fun k hk => hk22.block k (own_lt ho20 k hk) (by have := own_base ho20 k hk; omega))
    obtain ⟨A, c', e, _, h⟩ := Kd.R_reads (Kd.R_of_own (h1 := fun _ => rfl) (enc := Value.int .u8) (ok := fun _ => True) ho (fun _ _ => trivial))
    injection e with e1 e2 e3
    subst e1
    exact h
  have HIN := Lib.hid hin
  have HCC22 := Lib.hid (Kd.C_below HCC10.out hB23)
  clear ho20 hk22 hr20 hin
  have hE1 : ((f.length : Int) == (f.length : Int)) = true := by simp
  have hE2 : ((hsh : Int) == (hsh : Int)) = true := by simp
  have HSB := Lib.hid (sameBytes_calls A20 Ac c20 cc c c (by omega) W22 HIN.out HCC22.out)
  rw [decide_eq_true rfl] at HSB
  go_wp2_with fail
  refine (end_calls Br W22 hr22).mono ?_
  rintro e W23 ⟨rfl, rfl⟩
  go_wp2_with fail
  refine HSB.out.mono ?_
  rintro e W24 ⟨rfl, m, rfl⟩
  have hB25 := pw_below_drewN hB23 m
  have HCC24 := Lib.hid (Kd.C_below HCC22.out (below_of_drawn m))
  go_wp2_with fail
  refine (HBY.out Ac cc _ HCC24.out).mono ?_
  rintro e W26 ⟨rfl, hB26⟩
  have hB27 : Below W10.heap.size W10 W26 := hB25.trans (hB26.mono hB25.size)
  go_wp2_with fail
  refine (lives_calls W26).mono ?_
  rintro e W28 ⟨rfl, hB28⟩
  have hB29 : Below W10.heap.size W10 W28 := hB27.trans (hB28.mono hB27.size)
  go_wp2
  go_ret
  exact ⟨rfl, hb10'.trans (hB29.mono hb10'.size)⟩

end Go.Proofs.Ytbihjkpbmebpbaa.Det7
