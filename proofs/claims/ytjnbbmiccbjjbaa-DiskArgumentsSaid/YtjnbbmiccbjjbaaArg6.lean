/- refuterlaw06.DiskArguments: it returns true. -/
import Derived.Test.YtjnbbmiccbjjbaaLiv6
namespace Go.Proofs.Ytjnbbmiccbjjbaa.Disk
open Go.RowKit Go.Proofs Go.Proofs.Ytjnbbmiccbjjbaa.Ma Go.Proofs.Ytjnbbmiccbjjbaa.Wire Go.Proofs.Ytjnbbmiccbjjbaa.Rdr Go.Proofs.Ytjnbbmiccbjjbaa.MapI Go.Proofs.Ytjnbbmiccbjjbaa.Few Go.Proofs.YtjnbbmiccbjjbaaW.PrintWords Go.Proofs.YtjnbbmiccbjjbaaW.PrintLast

/-- A disk with one file, none of it durable. -/
def oneD (room file : Int) (own : List Int) : Dsk := ⟨setF [] file ⟨own, 0⟩, room, false, false, 0⟩
theorem oneD_at (room file : Int) (own : List Int) : (fileAt (oneD room file own).fs file).b = own := by
  unfold oneD
  simp only
  rw [fileAt_set, if_pos rfl]
  by_cases h : own.length = 0
  · rw [if_pos h, List.eq_nil_of_length_eq_zero h]; rfl
  · rw [if_neg h]
theorem oneD_used (room file : Int) (own : List Int) : usedL (oneD room file own).fs = own.length := by
  have h := used_set (fs := []) (by simp) file ⟨own, 0⟩
  have h1 : (fileAt [] file).b.length = 0 := rfl
  have h2 : usedL [] = 0 := rfl
  rw [h1, h2, Nat.add_zero, Nat.zero_add] at h
  exact h
theorem if_noFl (f : Fl) : (if f.b.length = 0 then noFl else f).b = f.b := by
  by_cases h : f.b.length = 0
  · rw [if_pos h, List.eq_nil_of_length_eq_zero h]; rfl
  · rw [if_neg h]
theorem arg_append {room file : Int} {own : List Int} (hf : 0 ≤ file ∧ file < 64) (h : (own.length : Int) ≤ room) : appendD (newDsk room) file own = (0, oneD room file own) := by
  unfold appendD
  rw [if_neg (fun h => h hf), if_neg (show ¬ (newDsk room).off = true by simp [newDsk]), if_neg (show ¬ (newDsk room).room - ((usedL (newDsk room).fs : Nat) : Int) < _ by show ¬ room - 0 < _; omega)]
  unfold stepD
  rw [if_pos (show (newDsk room).armed = false from rfl)]
  rfl
theorem arg_full {room file : Int} {own : List Int} (hf : 0 ≤ file ∧ file < 64) (h : room < (own.length : Int)) : appendD (newDsk room) file own = (23, newDsk room) := by
  unfold appendD
  rw [if_neg (fun h => h hf), if_neg (show ¬ (newDsk room).off = true by simp [newDsk]), if_pos (show (newDsk room).room - ((usedL (newDsk room).fs : Nat) : Int) < _ by show room - 0 < _; omega)]
theorem arg_bad {d : Dsk} {file : Int} (hf : ¬ (0 ≤ file ∧ file < 64)) (own : List Int) : appendD d file own = (1, d) ∧ readD d file = ([], 1) ∧ truncD d file 0 = (1, d) := by
  unfold appendD readD truncD
  rw [if_pos hf, if_pos hf, if_pos (.inl hf)]
  exact ⟨rfl, rfl, rfl⟩
theorem arg_read {d : Dsk} {file : Int} (hf : 0 ≤ file ∧ file < 64) (ho : d.off = false) : readD d file = ((fileAt d.fs file).b, 0) := by
  unfold readD
  rw [if_neg (fun h => h hf), if_neg (by simp [ho])]
theorem arg_size {room file size : Int} {own : List Int} (h : size < 0 ∨ (own.length : Int) < size) : truncD (oneD room file own) file size = (1, oneD room file own) := by
  unfold truncD
  rw [oneD_at, if_pos (.inr h)]
theorem arg_cut {room file : Int} {size : Nat} {own : List Int} (hf : 0 ≤ file ∧ file < 64) (h : size ≤ own.length) : ∃ d2, truncD (oneD room file own) file (size : Int) = (0, d2) ∧ d2.off = false ∧ (fileAt d2.fs file).b = own.take size := by
  have hs : stepD (oneD room file own) = (true, oneD room file own) := by
    unfold stepD
    rw [if_pos (show (oneD room file own).armed = false from rfl)]
  refine ⟨{ oneD room file own with fs := setF (oneD room file own).fs file ⟨own.take size, if (size : Int) < (fileAt (oneD room file own).fs file).dur then (size : Int) else (fileAt (oneD room file own).fs file).dur⟩ }, ?_, rfl, ?_⟩
  · unfold truncD
    rw [oneD_at, if_neg (fun e => e.elim (fun e => e hf) (fun e => by omega)), if_neg (show ¬ (oneD room file own).off = true by simp [oneD]), hs]
    simp only [if_pos]
    rw [Int.toNat_natCast]
  · simp only
    rw [fileAt_set, if_pos rfl, if_noFl]

set_option maxRecDepth 100000 in
set_option maxHeartbeats 8000000 in
theorem arguments_law (w : World) (room : Int) (_ : -9223372036854775808 ≤ room ∧ room ≤ 9223372036854775807) (file : Int) (hfile : -9223372036854775808 ≤ file ∧ file ≤ 9223372036854775807) (size : Int) (_ : -9223372036854775808 ≤ size ∧ size ≤ 9223372036854775807)
    (A0 : Option Addr) (c0 : Nat) (b : List Int) (h0 : Kd.C (Kd.int .u8) w A0 b.length b) (hb : ∀ x ∈ b, 0 ≤ x ∧ x ≤ 255) (_ : b.length ≤ 140737488351232) (hc0 : b.length ≤ c0) :
    Calls Try.prog 4 #[.int .i64 room, .int .i64 file, .int .i64 size, .slice A0 b.length c0] w fun e w' => e = .returned (.bool true) ∧ Below w.heap.size w w' := by
  by_cases hr : room < 0 ∨ 16777216 < room
  · have HN := Lib.hid (new_bad room hr w)
    by_cases hr1 : room < 0
    all_goals
      try (have hr2 : 16777216 < room := by omega)
      clear hr
      go_enter Try.func4, Try.ntmps4
      go_wp2_with fail
      refine HN.out.mono ?_
      rintro e w1 ⟨rfl, rfl⟩
      go_wp2_with fail
      refine (lives6_calls w).mono ?_
      rintro e w2 ⟨rfl, hB2⟩
      go_wp2
      go_ret
      exact ⟨rfl, hB2⟩
  · have hr1 : ¬ room < 0 := fun e => hr (.inl e)
    have hr2 : ¬ 16777216 < room := fun e => hr (.inr e)
    have HN := Lib.hid (new_calls room hr1 hr2 w)
    have HFEW := Lib.hid (fun (W : World) (h : Below w.heap.size w W) => few_calls A0 c0 b 60 (by omega) hc0 W (Kd.C_below h0 h))
    have hol : (b.take 60).length ≤ 60 := by rw [List.length_take]; omega
    have hob : ∀ x ∈ b.take 60, 0 ≤ x ∧ x ≤ 255 := fun x hx => hb x (List.mem_of_mem_take hx)
    generalize b.take 60 = own at HFEW hol hob
    have hok := DOk.new hr1 hr2
    have HOB := Lib.hid hob
    have HOK := Lib.hid hok
    clear hr h0 hb hob hok
    by_cases hf : 0 ≤ file ∧ file < 64
    · have hf1 : ¬ file < 0 := by omega
      have hf2 : ¬ 63 < file := by omega
      by_cases hful : room < (own.length : Int)
      · have HAP := Lib.hid (fun (D : Nat → Prop) (B : Nat) (A : Option Addr) (c : Nat) (W : World) (h : Dk W D B (newDsk room)) (hC : Kd.C (Kd.int .u8) W A own.length own) => append_calls D B (newDsk room) file hfile HOK.out.left HOK.out.room HOK.out.used' A c own (by omega) W h hC)
        have HRD := Lib.hid (fun (D : Nat → Prop) (B : Nat) (W : World) (h : Dk W D B (newDsk room)) => read_calls D B (newDsk room) file hfile (Nat.zero_le _) W h)
        have HUS := Lib.hid (fun (D : Nat → Prop) (B : Nat) (W : World) (h : Dk W D B (newDsk room)) => used_calls D B (newDsk room) (Nat.zero_le _) W h)
        rw [arg_full hf hful] at HAP
        rw [arg_read hf rfl] at HRD
        have HRD' := HRD
        clear HRD
        have HRD := Lib.hid (fun D B W h => show _ from HRD'.out D B W h)
        clear HRD' hf
        go_enter Try.func4, Try.ntmps4
        go_wp2_with fail
        refine HN.out.mono ?_
        rintro e w1 ⟨B, D, rfl, hd1, hD1, hB1⟩
        have HD1 := Lib.hid hd1
        have HDD := Lib.hid hD1
        have HB1 := Lib.hid hB1
        clear hd1 hD1 hB1
        go_wp2_with fail
        refine (HFEW.out w1 HB1.out).mono ?_
        rintro e w2 ⟨v2, rfl, hR2, hB2⟩
        obtain ⟨A2, c2, rfl, hcc2, hC2⟩ := Kd.R_reads hR2
        have HC2 := Lib.hid hC2
        have HR2 := Lib.hid hR2
        have HD2 := Lib.hid (HD1.out.grow hB2)
        have HB2 := Lib.hid (HB1.out.trans (hB2.mono HB1.out.size))
        clear hR2 hC2 hB2 HD1 HB1
        go_wp2_with fail
        refine (HAP.out D B A2 c2 w2 HD2.out HC2.out).mono ?_
        rintro e w3 ⟨rfl, D3, hd3, hs3, hn3, hk3⟩
        have HD3 := Lib.hid hd3
        have HR3 := Lib.hid (row_kd HR2.out hk3)
        have HDD3 := Lib.hid (fun k (hk : D3 k) => show w.heap.size ≤ k from (hn3 k hk).elim (HDD.out k) (fun e => Nat.le_trans HB2.out.size e))
        have HB3 := Lib.hid (HB2.out.trans (hk3.below HDD.out HB2.out.size))
        clear hd3 hs3 hn3 hk3 HD2 HB2 HR2 HC2
        go_wp2_with fail
        refine (HRD.out D3 B w3 HD3.out).mono ?_
        rintro e w4 ⟨v4, rfl, hR4, hB4⟩
        obtain ⟨A4, c4, rfl, _, hC4⟩ := Kd.R_reads hR4
        have HR4 := Lib.hid (Kd.R_below HR3.out hB4)
        have HC4 := Lib.hid hC4
        have HD4 := Lib.hid (HD3.out.grow hB4)
        have HB4 := Lib.hid (HB3.out.trans (hB4.mono HB3.out.size))
        clear hR4 hC4 hB4 HD3 HB3 HR3
        go_wp2_with fail
        refine (HUS.out D3 B w4 HD4.out).mono ?_
        rintro e w6 ⟨rfl, hB6⟩
        have HBL := Lib.hid (HB4.out.trans (hB6.mono HB4.out.size))
        clear hB6
        go_wp2_with fail
        refine (lives6_calls w6).mono ?_
        rintro e wZ ⟨rfl, hBZ⟩
        go_wp2
        go_ret
        exact ⟨rfl, HBL.out.trans (hBZ.mono HBL.out.size)⟩
      · have hful : (own.length : Int) ≤ room := by omega
        have hful2 : ¬ room < (own.length : Int) := by omega
        have hok1 := HOK.out.append file HOB.out
        rw [arg_append hf hful] at hok1
        have HOK1 := Lib.hid hok1
        have HAP := Lib.hid (fun (D : Nat → Prop) (B : Nat) (A : Option Addr) (c : Nat) (W : World) (h : Dk W D B (newDsk room)) (hC : Kd.C (Kd.int .u8) W A own.length own) => append_calls D B (newDsk room) file hfile HOK.out.left HOK.out.room HOK.out.used' A c own (by omega) W h hC)
        have HRD := Lib.hid (fun (D : Nat → Prop) (B : Nat) (W : World) (h : Dk W D B (oneD room file own)) => read_calls D B (oneD room file own) file hfile (by rw [oneD_at]; omega) W h)
        have HTR := Lib.hid (fun (D : Nat → Prop) (B : Nat) (W : World) (h : Dk W D B (oneD room file own)) => trunc_calls D B (oneD room file own) file hfile size HOK1.out.left (by rw [oneD_at]; omega) W h)
        rw [arg_append hf hful] at HAP
        rw [arg_read hf rfl, oneD_at] at HRD
        clear hok1
        by_cases hsz : size < 0 ∨ (own.length : Int) < size
        · rw [arg_size hsz] at HTR
          have HUS := Lib.hid (fun (D : Nat → Prop) (B : Nat) (W : World) (h : Dk W D B (oneD room file own)) => used_calls D B (oneD room file own) (by rw [oneD_used]; omega) W h)
          rw [oneD_used] at HUS
          by_cases hs1 : size < 0
          all_goals
            try (have hs2 : (own.length : Int) < size := by omega)
            clear hsz hf
            go_enter Try.func4, Try.ntmps4
            go_wp2_with fail
            refine HN.out.mono ?_
            rintro e w1 ⟨B, D, rfl, hd1, hD1, hB1⟩
            have HD1 := Lib.hid hd1
            have HDD := Lib.hid hD1
            have HB1 := Lib.hid hB1
            clear hd1 hD1 hB1
            go_wp2_with fail
            refine (HFEW.out w1 HB1.out).mono ?_
            rintro e w2 ⟨v2, rfl, hR2, hB2⟩
            obtain ⟨A2, c2, rfl, hcc2, hC2⟩ := Kd.R_reads hR2
            have HC2 := Lib.hid hC2
            have HR2 := Lib.hid hR2
            have HD2 := Lib.hid (HD1.out.grow hB2)
            have HB2 := Lib.hid (HB1.out.trans (hB2.mono HB1.out.size))
            clear hR2 hC2 hB2 HD1 HB1
            go_wp2_with fail
            refine (HAP.out D B A2 c2 w2 HD2.out HC2.out).mono ?_
            rintro e w3 ⟨rfl, D3, hd3, hs3, hn3, hk3⟩
            have HD3 := Lib.hid hd3
            have HR3 := Lib.hid (row_kd HR2.out hk3)
            have HDD3 := Lib.hid (fun k (hk : D3 k) => show w.heap.size ≤ k from (hn3 k hk).elim (HDD.out k) (fun e => Nat.le_trans HB2.out.size e))
            have HB3 := Lib.hid (HB2.out.trans (hk3.below HDD.out HB2.out.size))
            clear hd3 hs3 hn3 hk3 HD2 HB2 HR2 HC2
            go_wp2_with fail
            refine (HRD.out D3 B w3 HD3.out).mono ?_
            rintro e w4 ⟨v4, rfl, hR4, hB4⟩
            obtain ⟨A4, c4, rfl, _, hC4⟩ := Kd.R_reads hR4
            have HR4 := Lib.hid (Kd.R_below HR3.out hB4)
            have HC4 := Lib.hid hC4
            have HD4 := Lib.hid (HD3.out.grow hB4)
            have HB4 := Lib.hid (HB3.out.trans (hB4.mono HB3.out.size))
            clear hR4 hC4 hB4 HD3 HB3 HR3
            have h5 := sameBytes_calls A4 A2 c4 c2 own own (by omega) w4 HC4.out (Kd.R_reads' HR4.out).2.2
            rw [decide_eq_true rfl] at h5
            have H5 := Lib.hid h5
            clear h5
            go_wp2_with fail
            refine H5.out.mono ?_
            rintro e w5 ⟨rfl, n5, rfl⟩
            have hB5 : Below w4.heap.size w4 (w4.drewN n5) := pw_below_drewN (Below.refl _ _) n5
            generalize w4.drewN n5 = w5 at hB5 ⊢
            have HD5 := Lib.hid (HD4.out.grow hB5)
            have HB5 := Lib.hid (HB4.out.trans (hB5.mono HB4.out.size))
            clear hB5
            go_wp2_with fail
            refine (HTR.out D3 B w5 HD5.out).mono ?_
            rintro e w6 ⟨rfl, hd6, hk6⟩
            have HD6 := Lib.hid hd6
            have HB6 := Lib.hid (HB5.out.trans (hk6.below HDD3.out HB5.out.size))
            clear hd6 hk6
            go_wp2_with fail
            refine (HUS.out D3 B w6 HD6.out).mono ?_
            rintro e w7 ⟨rfl, hB7⟩
            have HBL := Lib.hid (HB6.out.trans (hB7.mono HB6.out.size))
            clear hB7
            go_wp2_with fail
            refine (lives6_calls w7).mono ?_
            rintro e wZ ⟨rfl, hBZ⟩
            go_wp2
            go_ret
            exact ⟨rfl, HBL.out.trans (hBZ.mono HBL.out.size)⟩
        · obtain ⟨s, rfl⟩ : ∃ s : Nat, size = (s : Int) := ⟨size.toNat, by omega⟩
          have hs1 : ¬ (s : Int) < 0 := by omega
          have hs2 : ¬ (own.length : Int) < (s : Int) := by omega
          obtain ⟨d2, hd2, hoff2, hat2⟩ := arg_cut (room := room) hf (own := own) (size := s) (by omega)
          have hok2 := HOK1.out.trunc file (s : Int)
          rw [hd2] at hok2 HTR
          have HRD2 := Lib.hid (fun (D : Nat → Prop) (B : Nat) (W : World) (h : Dk W D B d2) => read_calls D B d2 file hfile (by rw [hat2, List.length_take]; omega) W h)
          rw [arg_read hf hoff2, hat2] at HRD2
          have hts : (own.take s).length = s := by rw [List.length_take]; omega
          have HTS := Lib.hid hts
          have HCUT := Lib.hid (fun (W : World) (A : Option Addr) (c : Nat) (hc : own.length ≤ c) (h : Kd.C (Kd.int .u8) W A own.length own) => Cut.cut_run A c own s (by omega) hc .i64 W h)
          clear hsz hf hd2 hoff2 hat2 hok2 hts
          go_enter Try.func4, Try.ntmps4
          go_wp2_with fail
          refine HN.out.mono ?_
          rintro e w1 ⟨B, D, rfl, hd1, hD1, hB1⟩
          have HD1 := Lib.hid hd1
          have HDD := Lib.hid hD1
          have HB1 := Lib.hid hB1
          clear hd1 hD1 hB1
          go_wp2_with fail
          refine (HFEW.out w1 HB1.out).mono ?_
          rintro e w2 ⟨v2, rfl, hR2, hB2⟩
          obtain ⟨A2, c2, rfl, hcc2, hC2⟩ := Kd.R_reads hR2
          have HC2 := Lib.hid hC2
          have HR2 := Lib.hid hR2
          have HD2 := Lib.hid (HD1.out.grow hB2)
          have HB2 := Lib.hid (HB1.out.trans (hB2.mono HB1.out.size))
          clear hR2 hC2 hB2 HD1 HB1
          go_wp2_with fail
          refine (HAP.out D B A2 c2 w2 HD2.out HC2.out).mono ?_
          rintro e w3 ⟨rfl, D3, hd3, hs3, hn3, hk3⟩
          have HD3 := Lib.hid hd3
          have HR3 := Lib.hid (row_kd HR2.out hk3)
          have HDD3 := Lib.hid (fun k (hk : D3 k) => show w.heap.size ≤ k from (hn3 k hk).elim (HDD.out k) (fun e => Nat.le_trans HB2.out.size e))
          have HB3 := Lib.hid (HB2.out.trans (hk3.below HDD.out HB2.out.size))
          clear hd3 hs3 hn3 hk3 HD2 HB2 HR2 HC2
          go_wp2_with fail
          refine (HRD.out D3 B w3 HD3.out).mono ?_
          rintro e w4 ⟨v4, rfl, hR4, hB4⟩
          obtain ⟨A4, c4, rfl, _, hC4⟩ := Kd.R_reads hR4
          have HR4 := Lib.hid (Kd.R_below HR3.out hB4)
          have HC4 := Lib.hid hC4
          have HD4 := Lib.hid (HD3.out.grow hB4)
          have HB4 := Lib.hid (HB3.out.trans (hB4.mono HB3.out.size))
          clear hR4 hC4 hB4 HD3 HB3 HR3
          have h5 := sameBytes_calls A4 A2 c4 c2 own own (by omega) w4 HC4.out (Kd.R_reads' HR4.out).2.2
          rw [decide_eq_true rfl] at h5
          have H5 := Lib.hid h5
          clear h5
          go_wp2_with fail
          refine H5.out.mono ?_
          rintro e w5 ⟨rfl, n5, rfl⟩
          have hB5 : Below w4.heap.size w4 (w4.drewN n5) := pw_below_drewN (Below.refl _ _) n5
          generalize w4.drewN n5 = w5 at hB5 ⊢
          have HD5 := Lib.hid (HD4.out.grow hB5)
          have HR5 := Lib.hid (Kd.R_below HR4.out hB5)
          have HB5 := Lib.hid (HB4.out.trans (hB5.mono HB4.out.size))
          clear hB5
          go_wp2_with fail
          refine (HTR.out D3 B w5 HD5.out).mono ?_
          rintro e w6 ⟨rfl, hd6, hk6⟩
          have HD6 := Lib.hid hd6
          have HR6 := Lib.hid (row_kd HR5.out hk6)
          have HB6 := Lib.hid (HB5.out.trans (hk6.below HDD3.out HB5.out.size))
          clear hd6 hk6
          go_wp2_with fail
          refine (HRD2.out D3 B w6 HD6.out).mono ?_
          rintro e w7 ⟨v7, rfl, hR7, hB7⟩
          obtain ⟨A7, c7, hv7, _, hC7⟩ := Kd.R_reads hR7
          rw [HTS.out] at hv7
          subst hv7
          have HR7 := Kd.R_below HR6.out hB7
          obtain ⟨q1, q2, _⟩ := HCUT.out w7 A2 c2 hcc2 (Kd.R_reads' HR7).2.2
          have h8 := sameBytes_calls A7 A2 c7 c2 (own.take s) (own.take s) (by rw [HTS.out]; omega) w7 hC7 q2
          rw [decide_eq_true rfl, HTS.out] at h8
          rw [HTS.out] at q1
          have H8 := Lib.hid h8
          have HB7 := Lib.hid (HB6.out.trans (hB7.mono HB6.out.size))
          clear h8 hR7 hB7 hC7 HR7 q2
          go_wp2_with fail
          refine H8.out.mono ?_
          rintro e w8 ⟨rfl, n8, rfl⟩
          have hB8 : Below w7.heap.size w7 (w7.drewN n8) := pw_below_drewN (Below.refl _ _) n8
          generalize w7.drewN n8 = w8 at hB8 ⊢
          have HBL := Lib.hid (HB7.out.trans (hB8.mono HB7.out.size))
          clear hB8
          go_wp2_with fail
          refine (lives6_calls w8).mono ?_
          rintro e wZ ⟨rfl, hBZ⟩
          go_wp2
          go_ret
          exact ⟨rfl, HBL.out.trans (hBZ.mono HBL.out.size)⟩
    · have HAP := Lib.hid (fun (D : Nat → Prop) (B : Nat) (A : Option Addr) (c : Nat) (W : World) (h : Dk W D B (newDsk room)) (hC : Kd.C (Kd.int .u8) W A own.length own) => append_calls D B (newDsk room) file hfile HOK.out.left HOK.out.room HOK.out.used' A c own (by omega) W h hC)
      have HRD := Lib.hid (fun (D : Nat → Prop) (B : Nat) (W : World) (h : Dk W D B (newDsk room)) => read_calls D B (newDsk room) file hfile (Nat.zero_le _) W h)
      have HTR := Lib.hid (fun (D : Nat → Prop) (B : Nat) (W : World) (h : Dk W D B (newDsk room)) => trunc_calls D B (newDsk room) file hfile 0 HOK.out.left (Nat.zero_le _) W h)
      have HUS := Lib.hid (fun (D : Nat → Prop) (B : Nat) (W : World) (h : Dk W D B (newDsk room)) => used_calls D B (newDsk room) (Nat.zero_le _) W h)
      obtain ⟨p1, p2, p3⟩ := arg_bad (d := newDsk room) hf own
      rw [p1] at HAP
      rw [p2] at HRD
      rw [p3] at HTR
      clear p1 p2 p3
      by_cases hf1 : file < 0
      all_goals
        try (have hf2 : 63 < file := by omega)
        clear hf
        go_enter Try.func4, Try.ntmps4
        go_wp2_with fail
        refine HN.out.mono ?_
        rintro e w1 ⟨B, D, rfl, hd1, hD1, hB1⟩
        have HD1 := Lib.hid hd1
        have HDD := Lib.hid hD1
        have HB1 := Lib.hid hB1
        clear hd1 hD1 hB1
        go_wp2_with fail
        refine (HFEW.out w1 HB1.out).mono ?_
        rintro e w2 ⟨v2, rfl, hR2, hB2⟩
        obtain ⟨A2, c2, rfl, _, hC2⟩ := Kd.R_reads hR2
        have HC2 := Lib.hid hC2
        have HD2 := Lib.hid (HD1.out.grow hB2)
        have HB2 := Lib.hid (HB1.out.trans (hB2.mono HB1.out.size))
        clear hR2 hC2 hB2 HD1 HB1
        go_wp2_with fail
        refine (HAP.out D B A2 c2 w2 HD2.out HC2.out).mono ?_
        rintro e w3 ⟨rfl, D3, hd3, hs3, hn3, hk3⟩
        have HD3 := Lib.hid hd3
        have HDD3 := Lib.hid (fun k (hk : D3 k) => show w.heap.size ≤ k from (hn3 k hk).elim (HDD.out k) (fun e => Nat.le_trans HB2.out.size e))
        have HB3 := Lib.hid (HB2.out.trans (hk3.below HDD.out HB2.out.size))
        clear hd3 hs3 hn3 hk3 HD2 HB2
        go_wp2_with fail
        refine (HRD.out D3 B w3 HD3.out).mono ?_
        rintro e w4 ⟨v4, rfl, hR4, hB4⟩
        obtain ⟨A4, c4, rfl, _, _⟩ := Kd.R_reads hR4
        have HD4 := Lib.hid (HD3.out.grow hB4)
        have HB4 := Lib.hid (HB3.out.trans (hB4.mono HB3.out.size))
        clear hR4 hB4 HD3 HB3
        go_wp2_with fail
        refine (HTR.out D3 B w4 HD4.out).mono ?_
        rintro e w5 ⟨rfl, hd5, hk5⟩
        have HD5 := Lib.hid hd5
        have HB5 := Lib.hid (HB4.out.trans (hk5.below HDD3.out HB4.out.size))
        clear hd5 hk5 HD4 HB4
        go_wp2_with fail
        refine (HUS.out D3 B w5 HD5.out).mono ?_
        rintro e w6 ⟨rfl, hB6⟩
        have HB6 := Lib.hid (HB5.out.trans (hB6.mono HB5.out.size))
        clear hB6 HD5 HB5
        go_wp2_with fail
        refine (lives6_calls w6).mono ?_
        rintro e w7 ⟨rfl, hB7⟩
        go_wp2
        go_ret
        exact ⟨rfl, HB6.out.trans (hB7.mono HB6.out.size)⟩

end Go.Proofs.Ytjnbbmiccbjjbaa.Disk
