/- refuterlaw07.JournalFull: it returns true. -/
import Derived.Test.YtbihjkpbmebpbaaRows8
namespace Go.Proofs.Ytbihjkpbmebpbaa.Jnl
open Go.RowKit Go.Proofs Go.Proofs.Ytbihjkpbmebpbaa.Ma Go.Proofs.Ytbihjkpbmebpbaa.Wire Go.Proofs.Ytbihjkpbmebpbaa.Rdr Go.Proofs.Ytbihjkpbmebpbaa.MapI Go.Proofs.Ytbihjkpbmebpbaa.Scan Go.Proofs.Ytbihjkpbmebpbaa.Ref01 Go.Proofs.Ytbihjkpbmebpbaa.Ref07 Go.Proofs.Ytbihjkpbmebpbaa.Lives7 Go.Proofs.Ytbihjkpbmebpbaa.Fr7 Go.Proofs.Ytbihjkpbmebpbaa.Disk Go.Proofs.YtbihjkpbmebpbaaW.PrintWords Go.Proofs.YtbihjkpbmebpbaaW.PrintLast

theorem row_at {wX : World} {e base : Nat} {ok : Nat → Prop} {A : Option Addr} {n c : Nat} {xs : List (List Int)} (h : KL.R e wX base ok (.slice A n c) xs) (hs : ∀ x ∈ xs, x.length ≤ 9223372036854775807) (i : Nat) (hi : i < n) (hx : i < xs.length) :
    ∃ ad Ax cx, A = some ad ∧ xs[i].length ≤ cx ∧ Row8 wX ok Ax xs[i] ∧ ∀ W, (∀ k, ok k → W.heap[k]? = wX.heap[k]?) → W.cell? (ad.add i) = some (.slice Ax xs[i].length cx) ∧ Kd.C (Kd.int .u8) W Ax xs[i].length xs[i] := by
  obtain ⟨ad, Ax, cx, rfl, h1, h2, h3⟩ := row_get h i hi hx
  refine ⟨ad, Ax, cx, rfl, h2, h3, fun W hW => ⟨?_, (h3.same (D' := ok) (fun _ h => h) (fun k hk _ _ => hW k hk)).c (hs _ (List.getElem_mem hx))⟩⟩
  have hb : W.heap[ad.block]? = wX.heap[ad.block]? := hW ad.block (h.1 ad.block (by simp [Value.ownBlock]))
  have hb' : W.heap[(ad.add i).block]? = wX.heap[(ad.add i).block]? := by
    have : (ad.add i).block = ad.block := by unfold Addr.add; split <;> rfl
    rw [this]; exact hb
  rw [← h1]
  exact World.cell?_of_block (w := wX) hb'
set_option maxRecDepth 100000 in
set_option maxHeartbeats 1000000 in
theorem fresh_calls (room : Int) (h1 : ¬ room < 0) (h2 : ¬ 16777216 < room) (w : World) :
    Calls Try.prog 26 #[.int .i64 room] w fun e w' => ∃ B D, e = .returned (.pointer (some ⟨B, 0, none⟩)) ∧ Dk w' D B (newDsk room) ∧ (∀ k, D k → w.heap.size ≤ k) ∧ Below w.heap.size w w' := by
  have HN := Lib.hid (new_calls room h1 h2 w)
  go_enter Try.func26, Try.ntmps26
  go_wp2_with fail
  refine HN.out.mono ?_
  rintro e w1 ⟨B, D, rfl, hd, hD, hB⟩
  have HD := Lib.hid hd
  have HDD := Lib.hid hD
  have HB := Lib.hid hB
  clear hd hD hB
  go_wp2
  go_ret
  exact ⟨B, D, rfl, HD.out, HDD.out, HB.out⟩

theorem used_dF {room file : Int} {ks : List (List Int)} (hu : (framesL 0 ks).length ≤ 4611686018427387904) (D : Nat → Prop) (B : Nat) (W : World) (h : Dk W D B (dF room file ks)) :
    Calls Try.prog 28 #[.pointer (some ⟨B, 0, none⟩)] W fun e w' => e = .returned (.int .i64 ((framesL 0 ks).length : Int)) ∧ Below W.heap.size W w' := by
  have := used_calls D B (dF room file ks) (by rw [dF_used]; exact hu) W h
  rwa [dF_used] at this
theorem frames_snoc (ks : List (List Int)) (x : List Int) : framesL 0 (ks ++ [x]) = framesL 0 ks ++ frameL (ks.length : Int) x := by rw [framesL_snoc, Nat.zero_add]

/-- What is known of the kept records. -/
structure Kept (k : Nat) (room : Int) (ks : List (List Int)) : Prop where
  len : ks.length ≤ k
  small : Small ks
  fits : ((framesL 0 ks).length : Int) ≤ room

/-- What holds at the head of each round: the disk holds the kept records' frames, the log counts them. -/
def FullSt (wX : World) (D0 : Nat → Prop) (B L : Nat) (room : Int) (ks : List (List Int)) (u : Value) (wr : World) : Prop :=
  ∃ D', Dk wr D' B (dF room 63 ks) ∧ Lg wr L B 63 (ks.length : Int) false ∧ ¬ D' L ∧ (∀ k, D' k → D0 k ∨ wX.heap.size ≤ k) ∧ KD D0 wX wr ∧
    (K8 wX (fun k => ¬ D0 k ∧ k < wX.heap.size)).R 23 wr wX.heap.size (fun k => ¬ D' k ∧ k ≠ L) u ks

theorem make_bytes (m : Nat) (hm : m ≤ 70368744177664) (W : World) : ∃ W' A c, (Instr.makeSlice 23 (.int .i64 (m : Int)) (.int .i64 (m : Int))).run Try.prog W = .ok (.slice A m c) W' ∧ Kd.C (Kd.int .u8) W' A m (List.replicate m 0) ∧ Below W.heap.size W W' := by
  obtain ⟨i0, hi, hz0, hz1, hz2⟩ := info_parts info8
  have hr := run_make (P := Try.prog) W 23 5 i0 (.int .u8 0) Try.underlying23 hi hz0 .i64 .i64 (m : Int) (m : Int) (by omega) (by omega) (by rw [hz2]; omega) (by omega)
  simp only [Int.toNat_natCast] at hr
  rw [hz1, Nat.mul_one] at hr
  have e : madeCells (Value.int .u8 0).cells m = (nums .u8 (List.replicate m 0)).toArray := by
    refine Array.ext (by simp [madeCells, nums]) (fun i h1 h2 => ?_)
    simp [madeCells, nums, Value.cells, Nat.mod_one]
  rw [e] at hr
  have hC := lit_C W (List.replicate m 0) (by rw [List.length_replicate]; unfold maxLen; omega)
  rw [List.length_replicate] at hC
  exact ⟨_, _, _, hr, hC, (Below.refl _ _).alloc (Nat.le_refl _) _⟩

set_option maxRecDepth 100000 in
set_option maxHeartbeats 8000000 in
theorem full_law (w : World) (room : Int) (hroom : -9223372036854775808 ≤ room ∧ room ≤ 9223372036854775807) (A0 : Option Addr) (c0 : Nat) (l : List Int) (h0 : Kd.C (Kd.int .i64) w A0 l.length l) (hl : ∀ x ∈ l, -9223372036854775808 ≤ x ∧ x ≤ 9223372036854775807) (_ : l.length ≤ 140737488351232) (_ : l.length ≤ c0) :
    Calls Try.prog 6 #[.int .i64 room, .slice A0 l.length c0] w fun e w' => e = .returned (.bool true) ∧ Below w.heap.size w w' := by
  have HREC := Lib.hid (fun (W : World) (h : Below w.heap.size w W) => records_calls A0 c0 l W (Kd.C_below h0 h) hl)
  have hmk : ∀ W : World, ∃ W' A c, (Instr.makeSlice 23 (.int .i64 65537) (.int .i64 65537)).run Try.prog W = .ok (.slice A 65537 c) W' ∧ Kd.C (Kd.int .u8) W' A 65537 (List.replicate 65537 0) ∧ Below W.heap.size W W' := fun W => make_bytes 65537 (by decide) W
  clear h0 hl
  go_enter Try.func6, Try.ntmps6
  go_wp2_with fail
  refine (around_calls room 120 hroom (by decide) w).mono ?_
  rintro e w1 ⟨r, rfl, hr, rfl⟩
  go_wp2_with fail
  refine (fresh_calls (r : Int) (by omega) (by omega) w).mono ?_
  rintro e w2 ⟨B, D, rfl, hd2, hD2, hB2⟩
  have hop := open_dF (room := (r : Int)) (file := 63) (by decide) [] (fun x hx => by cases hx) (by decide)
  have hok := dF_ok (room := (r : Int)) (file := 63) (xs := []) (by omega) (by decide) (fun x hx => by cases hx) (by simp [framesL_nil])
  have HD2 := Lib.hid hD2
  have HB2 := Lib.hid hB2
  have HOP := Lib.hid (open_calls D B (dF (r : Int) 63 []) hok 63 (by decide) w2 hd2)
  unfold OpenP at HOP
  have hs0 := scans_frames [] (fun x hx => by cases hx) (by decide)
  simp only [hop.2, hop.1, hs0.1] at HOP
  have hlt2 := hd2.lt
  clear hd2 hD2 hB2 hop hok hs0
  go_wp2_with fail
  refine HOP.out.mono ?_
  rintro e w3 (⟨-, L, v3, rfl, hL3, hLs, hR3, hd3, hk3⟩ | ⟨h, -⟩)
  case inr => exact absurd rfl h
  have hB3 : Below w.heap.size w w3 := HB2.out.trans (hk3.below HD2.out HB2.out.size)
  have HL3 := Lib.hid hL3
  have HK3 := Lib.hid hk3
  have HDK3 := Lib.hid hd3
  have HB3 := Lib.hid hB3
  clear hL3 hR3 hd3 hk3 hB3
  go_wp2_with fail
  refine (HREC.out w3 HB3.out).mono ?_
  rintro e wX ⟨vX, X, rfl, hRX, hxl, hxs, hbX⟩
  obtain ⟨Ax, cx, rfl, hcx, _⟩ := Kd.R_reads hRX
  have hX6 : X.length ≤ 6 := by omega
  have hLlt : L < w3.heap.size := lt_of HL3.out
  have hlt3 := HDK3.out.lt
  have hRX' : KL.R 23 wX w3.heap.size (fun k => ¬ (D k ∨ k = L) ∧ k < wX.heap.size) (.slice Ax X.length cx) X := Kd.R_mono (Kd.R_bound hRX) (fun k hk => ⟨fun e => e.elim (fun e => by have := hlt3 k e; have := hk.2.1; omega) (fun e => by have := hk.2.1; omega), hk.2.2.1⟩)
  have HROW := Lib.hid (fun (i : Nat) (hi : i < X.length) => row_at hRX' (fun x hx => by have := (hxs x hx).1; omega) i hi hi)
  have HSM := Lib.hid hxs
  have HKX := Lib.hid (show KD (fun k => D k ∨ k = L) w2 wX from (HK3.out.wide (fun _ h => .inl h)).trans (KD.of_below hbX))
  have hst : FullSt wX (fun k => D k ∨ k = L) B L (r : Int) [] (.slice none 0 0) wX :=
    ⟨D, HDK3.out.grow hbX, (hbX.block L hLlt).trans HL3.out, fun e => by have := hlt2 L e; omega, fun k hk => .inl (.inl hk), KD.refl _ _, Kd.R_nil _ _ _ _ _⟩
  have hz1 := HB3.out.size
  have hbX' : Below w.heap.size w wX := HB3.out.trans (hbX.mono hz1)
  have HBX := Lib.hid hbX'
  have HST := Lib.hid hst
  have HLW := Lib.hid (Nat.le_trans HB2.out.size hLs)
  have HNL := Lib.hid (show L < wX.heap.size from Nat.lt_of_lt_of_le hLlt hbX.size)
  clear hRX hxs hRX' hst hlt3 hlt2 hbX' hLs hxl hLlt hz1 hbX HKX HOP HREC
  go_wp2
  go_loopw [11, 12] (fun u i wr => ∃ (k : Nat) (ks : List (List Int)), i = .int .i64 k ∧ k ≤ X.length ∧ Hid (Kept k (r : Int) ks) ∧ Hid (FullSt wX (fun k => D k ∨ k = L) B L (r : Int) ks u wr)) (fun _ i _ => X.length - (intOf i).toNat)
  case atStart => exact ⟨0, [], rfl, Nat.zero_le _, Lib.hid ⟨Nat.le_refl _, (fun x hx => by cases hx), by simp [framesL_nil]⟩, HST⟩
  case round =>
    obtain ⟨k, ks, rfl, hk, HKE, hst⟩ := hrel
    obtain ⟨D', hd, hL, hDL, hnew, hkd, hR⟩ := hst.out
    obtain ⟨Au, cu, rfl, _, _⟩ := Kd.R_reads hR
    have hkl := HKE.out.len
    have hkf := HKE.out.fits
    have hok := dF_ok (room := (r : Int)) (file := 63) (xs := ks) (by omega) (by decide) (fun x hx => (HKE.out.small x hx).2) hkf
    have HOK := Lib.hid hok
    have HKD := Lib.hid hkd
    have HNEW := Lib.hid hnew
    have HDK := Lib.hid hd
    have HLG := Lib.hid hL
    have HRU := Lib.hid hR
    clear hst hok hkd hnew hd hL hR
    by_cases hlt : k < X.length
    · obtain ⟨ad, Ay, cy, e1, hyc, hrow8, hat⟩ := HROW.out k hlt
      subst e1
      have HROW5 := Lib.hid hrow8
      clear hrow8
      have HAT := Lib.hid (fun (W : World) (h : KD (fun k => D k ∨ k = L) wX W) => hat W (fun k hk => h.block k hk.2 hk.1))
      obtain ⟨hy1, hy2⟩ := HSM.out X[k] (List.getElem_mem hlt)
      generalize X[k] = y at hyc HAT hy1 hy2 HROW5
      have hfy := frameL_length (ks.length : Int) (by omega) y (by omega)
      have HFR := Lib.hid (fun (W : World) (h : Kd.C (Kd.int .u8) W Ay y.length y) => Frame.frame_calls (ks.length : Int) (by omega) Ay cy y hy2 (by omega) W h)
      have HLA := Lib.hid (fun (W : World) (h : Dk W D' B (dF (r : Int) 63 ks)) (hL : Lg W L B 63 (ks.length : Int) false) (hC : Kd.C (Kd.int .u8) W Ay y.length y) => lap_calls D' B L (dF (r : Int) 63 ks) HOK.out 63 (ks.length : Int) false (by decide) (by omega) Ay cy y hy2 W h hL hDL hC)
      have hsn := frames_snoc ks y
      have hk0 : (0 : Int) ≤ (k : Int) := by omega
      have hka : (k : Int) < (X.length : Int) := by omega
      have HY2 := Lib.hid hy2
      clear hat hy2
      obtain ⟨c1, _⟩ := HAT.out wr HKD.out
      by_cases hfit : ((framesL 0 ks).length : Int) + (frameL (ks.length : Int) y).length ≤ r
      · have hno : ¬ (r : Int) < ((framesL 0 ks).length : Int) + ((frameL (ks.length : Int) y).length : Int) := by omega
        rw [lap_fits (by decide) ks y (by omega) hfit] at HLA
        unfold LapP at HLA
        simp only at HLA
        have hsl : (framesL 0 (ks ++ [y])).length = (framesL 0 ks).length + (frameL (ks.length : Int) y).length := by rw [hsn, List.length_append]
        have HKE2 : Kept (k + 1) (r : Int) (ks ++ [y]) := ⟨by rw [List.length_append]; simp; omega, HKE.out.small.snoc hy1 HY2.out, by rw [hsl]; omega⟩
        have HU2 := Lib.hid (fun (D : Nat → Prop) (W : World) (h : Dk W D B (dF (r : Int) 63 (ks ++ [y]))) => used_dF (room := (r : Int)) (file := 63) (ks := ks ++ [y]) (by rw [hsl]; omega) D B W h)
        rw [hsl] at HU2
        have hU1 := used_dF (room := (r : Int)) (file := 63) (ks := ks) (by omega) D' B wr HDK.out
        obtain ⟨K2, hK2⟩ : ∃ K2, ks ++ [y] = K2 := ⟨_, rfl⟩
        have hKl : (K2.length : Int) = (ks.length : Int) + 1 := by rw [← hK2, List.length_append]; simp
        rw [hK2] at HKE2 HU2 HLA
        rw [← hKl] at HLA
        have HK2 := Lib.hid hK2
        clear hK2 hKl
        generalize framesL 0 ks = F at hU1 HU2 hno hfit hkf hsl
        generalize frameL (ks.length : Int) y = fr at HFR HU2 hno hfit hfy hsl
        have HU1 := Lib.hid hU1
        have HKE3 := Lib.hid HKE2
        clear hU1 hsn HKE HKE2 hfit hsl
        go_wp2_with fail
        refine HU1.out.mono ?_
        rintro e w1 ⟨rfl, hB1⟩
        have hkd1 := HKD.out.trans (KD.of_below hB1)
        obtain ⟨c2, hC2⟩ := HAT.out w1 hkd1
        have HB1 := Lib.hid hB1
        have HKD1 := Lib.hid hkd1
        have HC2 := Lib.hid hC2
        clear hB1 hkd1 hC2
        go_wp2_with fail
        refine (HFR.out w1 HC2.out).mono ?_
        rintro e w2 ⟨v2, rfl, hR2, hB2⟩
        obtain ⟨Ag, cg, rfl, _, _⟩ := Kd.R_reads hR2
        have hkd2 := HKD1.out.trans (KD.of_below hB2)
        obtain ⟨c3, hC3⟩ := HAT.out w2 hkd2
        have hB12 : Below wr.heap.size wr w2 := HB1.out.trans (hB2.mono HB1.out.size)
        have HB12 := Lib.hid hB12
        have HKD2 := Lib.hid hkd2
        have HC3 := Lib.hid hC3
        clear hB2 hkd2 hC3 hR2 hB12 HB1 HC2 HKD1 c2
        go_wp2_with fail
        refine (HLA.out w2 (HDK.out.grow HB12.out) ((HB12.out.block L (lt_of HLG.out)).trans HLG.out) HC3.out).mono ?_
        rintro e w4 ⟨rfl, hL4, D4, hd4, hsub, hnew4, hDL4, hk4⟩
        have hkd4 : KD (fun k => D k ∨ k = L) wX w4 := HKD2.out.less hk4 (fun k hk => hk.elim (fun e => HNEW.out k e) (fun e => .inl (.inr e)))
        have hnew5 : ∀ k, D4 k → (D k ∨ k = L) ∨ wX.heap.size ≤ k := fun k hk => (hnew4 k hk).elim (fun e => HNEW.out k e) (fun e => .inr (Nat.le_trans HKD2.out.size e))
        have hR4 := Kd.R_mono (ok' := fun k => ¬ D4 k ∧ k ≠ L) (Kd.R_step (w1 := w4) (Kd.R_bound (Kd.R_below HRU.out HB12.out)) (fun k ho hlt => hk4.block k hlt (fun e => e.elim ho.1.1 ho.1.2))) (fun k ho => ⟨fun e => (hnew4 k e).elim ho.1.1 (fun e => by have := ho.2.2.1; omega), ho.1.2⟩)
        have HR4 := Lib.hid hR4
        have HD4 := Lib.hid hd4
        have HL4 := Lib.hid hL4
        have HNEW5 := Lib.hid hnew5
        have HKD4 := Lib.hid hkd4
        clear hR4 hd4 hL4 hsub hnew4 hk4 hnew5 hkd4 HC3 HKD2 HB12 HRU HDK HLG HNEW c3
        go_wp2_with fail
        refine (HU2.out D4 w4 HD4.out).mono ?_
        rintro e w5 ⟨rfl, hB5⟩
        have hkd5 := HKD4.out.trans (KD.of_below hB5)
        obtain ⟨c5, _⟩ := HAT.out w5 hkd5
        have HR5 := Lib.hid (Kd.R_below HR4.out hB5)
        have HD5 := Lib.hid (HD4.out.grow hB5)
        have hlw5 : Lg w5 L B 63 (K2.length : Int) false := (hB5.block L (lt_of HL4.out)).trans HL4.out
        have HL5 := Lib.hid hlw5
        have hsX := hkd5.size
        have HKD5 := Lib.hid hkd5
        clear hkd5 hB5 hlw5 HR4 HD4 HL4 HKD4
        go_wp2_with (at_builtin; refine Kd.R_append (K8 wX (fun k => ¬ (D k ∨ k = L) ∧ k < wX.heap.size)) (w0 := w5) wX.heap.size rfl (.tmp 90) (.tmp 95) 27 23 (.slice none 0 0) 24 rfl Try.underlying27 infoRow rfl Nat.one_pos (by decide) (.slice Au ks.length cu) ks y [.slice Ay y.length cy] (fun k => ¬ D4 k ∧ k ≠ L) (fun _ => False) rfl rfl ⟨Ay, cy, rfl, hyc, HROW5.out⟩ (fun _ h => h.elim) (fun k hk => ⟨fun e => by have := HD5.out.lt k e; omega, fun e => by have := HNL.out; omega⟩) HR5.out (Below.refl _ _) hsX (by omega) ?_; intro v6 w6 hR6 hB6 hg6 _; rw [HK2.out] at hR6; obtain ⟨A6, c6, rfl, _, _⟩ := Kd.R_reads hR6; have HR6 := Lib.hid hR6; have HB6 := Lib.hid hB6; have HG6 := Lib.hid hg6; clear hR6 hB6 hg6)
        have hd6 : Dk w6 D4 B (dF (r : Int) 63 K2) := Dk.keep HD5.out (fun g hg => HG6.out.block g (HD5.out.lt g hg) (fun e => (HR5.out.1 g e.symm).1 hg)) HB6.out.size
        have hl6 : Lg w6 L B 63 (K2.length : Int) false := (HG6.out.block L (lt_of HL5.out) (fun e => (HR5.out.1 L e.symm).2 rfl)).trans HL5.out
        have HD6 := Lib.hid hd6
        have HL6 := Lib.hid hl6
        have HKD6 := Lib.hid (HKD5.out.step HB6.out)
        clear hd6 hl6 HG6 HB6 HD5 HL5 HR5 HKD5 c5
        go_wp2_with fail
        refine (len_calls HL6.out).mono ?_
        rintro e w7 ⟨rfl, rfl⟩
        go_wp2_with fail
        refine (up_calls HL6.out).mono ?_
        rintro e w7 ⟨rfl, rfl⟩
        go_wp2
        go_roundw
        case rel => exact ⟨k + 1, K2, by go_num, by omega, HKE3, Lib.hid ⟨D4, HD6.out, HL6.out, hDL4, HNEW5.out, HKD6.out, HR6.out⟩⟩
        case measure => simp [intOf]; omega
      · have hno : (r : Int) < ((framesL 0 ks).length : Int) + ((frameL (ks.length : Int) y).length : Int) := by omega
        rw [lap_full (by decide) ks y (by omega) hno] at HLA
        unfold LapP at HLA
        simp only at HLA
        have HKE3 := Lib.hid (show Kept (k + 1) (r : Int) ks from ⟨by omega, HKE.out.small, HKE.out.fits⟩)
        have HU2 := Lib.hid (fun (D : Nat → Prop) (W : World) (h : Dk W D B (dF (r : Int) 63 ks)) => used_dF (room := (r : Int)) (file := 63) (ks := ks) (by omega) D B W h)
        generalize framesL 0 ks = F at HU2 hno hfit hkf
        generalize frameL (ks.length : Int) y = fr at HFR hno hfit hfy
        clear hsn HKE hfit
        go_wp2_with fail
        refine (HU2.out D' wr HDK.out).mono ?_
        rintro e w1 ⟨rfl, hB1⟩
        have hkd1 := HKD.out.trans (KD.of_below hB1)
        obtain ⟨c2, hC2⟩ := HAT.out w1 hkd1
        have HB1 := Lib.hid hB1
        have HKD1 := Lib.hid hkd1
        have HC2 := Lib.hid hC2
        clear hB1 hkd1 hC2
        go_wp2_with fail
        refine (HFR.out w1 HC2.out).mono ?_
        rintro e w2 ⟨v2, rfl, hR2, hB2⟩
        obtain ⟨Ag, cg, rfl, _, _⟩ := Kd.R_reads hR2
        have hkd2 := HKD1.out.trans (KD.of_below hB2)
        obtain ⟨c3, hC3⟩ := HAT.out w2 hkd2
        have hB12 : Below wr.heap.size wr w2 := HB1.out.trans (hB2.mono HB1.out.size)
        have HB12 := Lib.hid hB12
        have HKD2 := Lib.hid hkd2
        have HC3 := Lib.hid hC3
        clear hB2 hkd2 hC3 hR2 hB12 HB1 HC2 HKD1 c2
        go_wp2_with fail
        refine (HLA.out w2 (HDK.out.grow HB12.out) ((HB12.out.block L (lt_of HLG.out)).trans HLG.out) HC3.out).mono ?_
        rintro e w4 ⟨rfl, hL4, D4, hd4, hsub, hnew4, hDL4, hk4⟩
        have hkd4 : KD (fun k => D k ∨ k = L) wX w4 := HKD2.out.less hk4 (fun k hk => hk.elim (fun e => HNEW.out k e) (fun e => .inl (.inr e)))
        have hnew5 : ∀ k, D4 k → (D k ∨ k = L) ∨ wX.heap.size ≤ k := fun k hk => (hnew4 k hk).elim (fun e => HNEW.out k e) (fun e => .inr (Nat.le_trans HKD2.out.size e))
        have hR4 := Kd.R_mono (ok' := fun k => ¬ D4 k ∧ k ≠ L) (Kd.R_step (w1 := w4) (Kd.R_bound (Kd.R_below HRU.out HB12.out)) (fun k ho hlt => hk4.block k hlt (fun e => e.elim ho.1.1 ho.1.2))) (fun k ho => ⟨fun e => (hnew4 k e).elim ho.1.1 (fun e => by have := ho.2.2.1; omega), ho.1.2⟩)
        have HR4 := Lib.hid hR4
        have HD4 := Lib.hid hd4
        have HL4 := Lib.hid hL4
        have HNEW5 := Lib.hid hnew5
        have HKD4 := Lib.hid hkd4
        clear hR4 hd4 hL4 hsub hnew4 hk4 hnew5 hkd4 HC3 HKD2 HB12 HRU HDK HLG HNEW c3
        go_wp2_with fail
        refine (HU2.out D4 w4 HD4.out).mono ?_
        rintro e w5 ⟨rfl, hB5⟩
        have hkd5 := HKD4.out.trans (KD.of_below hB5)
        have HD6 := Lib.hid (HD4.out.grow hB5)
        have hlw5 : Lg w5 L B 63 (ks.length : Int) false := (hB5.block L (lt_of HL4.out)).trans HL4.out
        have HL6 := Lib.hid hlw5
        have HR6 := Lib.hid (Kd.R_below HR4.out hB5)
        have HKD6 := Lib.hid hkd5
        clear hkd5 hB5 hlw5 HR4 HD4 HL4 HKD4
        go_wp2_with fail
        refine (len_calls HL6.out).mono ?_
        rintro e w7 ⟨rfl, rfl⟩
        go_wp2_with fail
        refine (up_calls HL6.out).mono ?_
        rintro e w7 ⟨rfl, rfl⟩
        go_wp2
        go_roundw
        case rel => exact ⟨k + 1, ks, by go_num, by omega, HKE3, Lib.hid ⟨D4, HD6.out, HL6.out, hDL4, HNEW5.out, HKD6.out, HR6.out⟩⟩
        case measure => simp [intOf]; omega
    · have hke : k = X.length := by omega
      subst hke
      have hop := open_dF (room := (r : Int)) (file := 63) (by decide) ks (fun x hx => by have := (HKE.out.small x hx).1; omega) (by omega)
      have hs0 := scans_frames ks (fun x hx => by have := (HKE.out.small x hx).1; omega) (by omega)
      have HOP := Lib.hid (fun (W : World) (h : Dk W D' B (dF (r : Int) 63 ks)) => open_calls D' B (dF (r : Int) 63 ks) HOK.out 63 (by decide) W h)
      unfold OpenP at HOP
      simp only [hop.2, hop.1, hs0.1] at HOP
      have hfar := open_far (dF (r : Int) 63 ks) 64 (by decide)
      have HOF := Lib.hid (fun (W : World) (h : Dk W D' B (dF (r : Int) 63 ks)) => open_calls D' B (dF (r : Int) 63 ks) HOK.out 64 (by decide) W h)
      unfold OpenP at HOF
      simp only [hfar] at HOF
      clear hop hs0 hfar
      go_wp2_with fail
      refine (HOP.out wr HDK.out).mono ?_
      rintro e w4 (⟨-, L4, v4, rfl, hL4, hLs, hR4, hd4, hk4⟩ | ⟨h, -⟩)
      case inr => exact absurd rfl h
      obtain ⟨A4, c4, rfl, _, _⟩ := Kd.R_reads hR4
      have hkd4 := HKD.out.less hk4 HNEW.out
      have hL4' : Lg w4 L B 63 (ks.length : Int) false := (hk4.block L (lt_of HLG.out) hDL).trans HLG.out
      have hlt4 := HDK.out.lt
      have hsz4 := hk4.size
      have hRb4 := Kd.R_bound hR4
      have hRu4 := Kd.R_step (w1 := w4) (Kd.R_bound HRU.out) (fun k ho hlt => hk4.block k hlt ho.1.1)
      have HR4 := Lib.hid hRb4
      have HRU4 := Lib.hid hRu4
      have HLG4 := Lib.hid hL4'
      have HDK4 := Lib.hid hd4
      have HKD4 := Lib.hid hkd4
      clear hR4 hkd4 hL4' hRb4 hRu4 hd4 hk4 hL4 HRU HLG HDK HKD HOP
      go_wp2_with fail
      refine (open_nil 0 w4).mono ?_
      rintro e w5 ⟨rfl, rfl⟩
      go_wp2_with fail
      refine (HOF.out w4 HDK4.out).mono ?_
      rintro e w5 (⟨h, -⟩ | ⟨-, rfl, hd5, hk5⟩)
      case inl => exact absurd h (by decide)
      have hkd5 := HKD4.out.less hk5 HNEW.out
      have hL5 : Lg w5 L B 63 (ks.length : Int) false := (hk5.block L (lt_of HLG4.out) hDL).trans HLG4.out
      have hR5 := Kd.R_step (w1 := w5) HR4.out (fun k ho hlt => hk5.block k hlt (fun e => by have := hlt4 k e; have := ho.1.1; omega))
      have hRu5 := Kd.R_step (w1 := w5) HRU4.out (fun k ho hlt => hk5.block k hlt ho.1.1)
      have hC5 := (Kd.R_reads' hR5).2.2
      have hCu5 := k8_reads (fun x hx => by have := (HKE.out.small x hx).1; omega) (fun k hk => hkd5.block k hk.2 hk.1) (Kd.R_reads' hRu5).2.2
      have hSL := sameLists_calls A4 Au c4 cu ks ks (by omega) (fun x hx => by have := (HKE.out.small x hx).1; omega) w5 hC5 hCu5
      rw [decide_eq_true rfl] at hSL
      have HSL := Lib.hid hSL
      have HL5 := Lib.hid hL5
      have HDK5 := Lib.hid hd5
      have HKD5 := Lib.hid hkd5
      clear hkd5 hL5 hR5 hRu5 hC5 hCu5 hSL hd5 hk5 HR4 HRU4 HLG4 HDK4 HKD4 HOF
      go_wp2_with fail
      refine HSL.out.mono ?_
      rintro e w6 ⟨rfl, hB6⟩
      have HB6 := Lib.hid hB6
      clear hB6
      have HMK := Lib.hid (hmk w6)
      obtain ⟨W8, b8, c8, hrun, hC8, hB8⟩ := HMK.out
      have hBW : Below w5.heap.size w5 W8 := HB6.out.trans (hB8.mono HB6.out.size)
      have hLA8 := lap_calls D' B L (dF (r : Int) 63 ks) HOK.out 63 (ks.length : Int) false (by decide) (by omega) b8 c8 (List.replicate 65537 0) (fun x hx => by rw [(List.mem_replicate.1 hx).2]; decide) W8 (HDK5.out.grow hBW) ((hBW.block L (lt_of HL5.out)).trans HL5.out) hDL (by rw [List.length_replicate]; exact hC8)
      rw [lap_long _ _ _ _ _ (by rw [List.length_replicate]; decide), List.length_replicate] at hLA8
      unfold LapP at hLA8
      simp only at hLA8
      have HLA8 := Lib.hid hLA8
      have HBW := Lib.hid hBW
      clear hC8 hB8 hBW hLA8
      go_wp2_with fail
      refine HLA8.out.mono ?_
      rintro e w9 ⟨rfl, -, D9, -, -, hnew9, -, hk9⟩
      have HK9 := Lib.hid ((HKD5.out.trans (KD.of_below HBW.out)).less hk9 (fun k hk => hk.elim (fun e => (HNEW.out k e)) (fun e => .inl (.inr e))))
      clear hk9 hnew9
      go_wp2_with fail
      refine (lives_calls w9).mono ?_
      rintro e w10 ⟨rfl, hB10⟩
      have hfin : Below w.heap.size w w10 := HBX.out.trans ((HK9.out.trans (KD.of_below hB10)).below (fun k hk => hk.elim (fun e => HD2.out k e) (fun e => e ▸ HLW.out)) HBX.out.size)
      go_wp2
      go_ret
      exact ⟨rfl, hfin⟩

end Go.Proofs.Ytbihjkpbmebpbaa.Jnl
