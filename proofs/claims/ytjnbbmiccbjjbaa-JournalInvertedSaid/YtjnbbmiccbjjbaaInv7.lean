/- refuterlaw07.JournalInverted: it returns true. -/
import Derived.Test.YtjnbbmiccbjjbaaInvP
namespace Go.Proofs.Ytjnbbmiccbjjbaa.Jnl
open Go.RowKit Go.Proofs Go.Proofs.Ytjnbbmiccbjjbaa.Ma Go.Proofs.Ytjnbbmiccbjjbaa.Wire Go.Proofs.Ytjnbbmiccbjjbaa.Rdr Go.Proofs.Ytjnbbmiccbjjbaa.MapI Go.Proofs.Ytjnbbmiccbjjbaa.Scan Go.Proofs.Ytjnbbmiccbjjbaa.Few Go.Proofs.Ytjnbbmiccbjjbaa.Ref07 Go.Proofs.Ytjnbbmiccbjjbaa.Lives7 Go.Proofs.Ytjnbbmiccbjjbaa.Fr7 Go.Proofs.Ytjnbbmiccbjjbaa.Disk Go.Proofs.YtjnbbmiccbjjbaaW.PrintWords Go.Proofs.YtjnbbmiccbjjbaaW.PrintLast

set_option maxRecDepth 100000 in
set_option maxHeartbeats 8000000 in
theorem inverted_law (w : World) (A0 : Option Addr) (c0 : Nat) (l : List Int) (h0 : Kd.C (Kd.int .i64) w A0 l.length l) (hl : ∀ x ∈ l, -9223372036854775808 ≤ x ∧ x ≤ 9223372036854775807) (_ : l.length ≤ 140737488351232) (_ : l.length ≤ c0)
    (A1 : Option Addr) (c1 : Nat) (b : List Int) (h1 : Kd.C (Kd.int .u8) w A1 b.length b) (hb : ∀ x ∈ b, 0 ≤ x ∧ x ≤ 255) (_ : b.length ≤ 140737488351232) (hc1 : b.length ≤ c1)
    (keep : Int) (hkp : -9223372036854775808 ≤ keep ∧ keep ≤ 9223372036854775807) (flip : Int) (hf : -9223372036854775808 ≤ flip ∧ flip ≤ 9223372036854775807) :
    Calls Try.prog 12 #[.slice A0 l.length c0, .slice A1 b.length c1, .int .i64 keep, .int .i64 flip] w fun e w' => e = .returned (.bool true) ∧ Below w.heap.size w w' := by
  have HREC := Lib.hid (fun (W : World) (h : Below w.heap.size w W) => records_calls A0 c0 l W (Kd.C_below h0 h) hl)
  have HFEW := Lib.hid (fun W (h : Below w.heap.size w W) => few_calls A1 c1 b 60 (by omega) hc1 W (Kd.C_below h1 h))
  have hbl : (b.take 60).length ≤ 60 := List.length_take_le _ _
  have hbb : ∀ x ∈ b.take 60, 0 ≤ x ∧ x ≤ 255 := fun x hx => hb x (List.mem_of_mem_take hx)
  generalize b.take 60 = y at HFEW hbl hbb
  have HBB := Lib.hid hbb
  clear h0 hl h1 hb hbb
  go_enter Try.func12, Try.ntmps12
  go_wp2_with fail
  refine (fresh_j w.heap.size w w (Below.refl _ _) (Nat.le_refl _) 5000 (by decide) (by decide)).mono ?_
  rintro e w1 ⟨B, rfl, hj1⟩
  rw [new_dF 5000 0] at hj1
  obtain ⟨hr0, ho0⟩ := open_dF (left := 0) (room := 5000) (file := 0) (by decide) [] (by simp) (by decide)
  have hop := open_j hj1 0 (by decide) (by rw [ho0])
  rw [hr0, ho0, (scans_frames [] (by simp) (by decide)).1] at hop
  have HOP := Lib.hid hop
  clear hop hr0 ho0 hj1
  go_wp2_with fail
  refine HOP.out.mono ?_
  rintro e w2 ⟨L, v2, rfl, hj2, -, -⟩
  have HJ2 := Lib.hid hj2
  clear hj2 HOP
  go_wp2_with fail
  refine (HREC.out w2 HJ2.out.low).mono ?_
  rintro e w3 ⟨v3, X, rfl, hR3, hxl, hxs, hb3⟩
  obtain ⟨Ax, cx, rfl, hcx, -⟩ := Kd.R_reads hR3
  have hX6 : X.length ≤ 6 := by omega
  have HSM := Lib.hid hxs
  have hj3 := (HJ2.out.news hb3).1
  have HXC := Lib.hid (fun (W : World) h => list_keep (Kd.R_mono (ok' := fun k => w2.heap.size ≤ k ∧ k < w3.heap.size) (Kd.R_bound hR3) (fun k hk => ⟨hk.2.1, hk.2.2.1⟩)) W h)
  have HJ3 := Lib.hid hj3
  clear hxl hxs hR3 hb3 hj3 HJ2 HREC
  generalize hS : (fun k => (False ∨ w1.heap.size ≤ k ∧ k ≠ L ∧ k < w2.heap.size) ∨ w2.heap.size ≤ k ∧ k < w3.heap.size) = S at HJ3
  have hS2 : ∀ k, w2.heap.size ≤ k ∧ k < w3.heap.size → S k := fun k hk => by rw [← hS]; exact .inr hk
  have HS := Lib.hid hS2
  clear hS hS2
  have HX := Lib.hid (fun (W : World) (h : ∀ k, S k → W.heap[k]? = w3.heap[k]?) => HXC.out W (fun k hk => h k (HS.out k hk)))
  clear HXC
  go_wp2
  go_loopw [14] (fun i wr => ∃ k : Nat, i = .int .i64 k ∧ k ≤ X.length ∧ Hid (JS w.heap.size w w3 S B (dF 0 5000 0 (X.take k)) [(L, 0, (k : Int), false)] wr)) (fun i _ => X.length - (intOf i).toNat)
  case atStart => exact ⟨0, rfl, Nat.zero_le _, HJ3⟩
  case round =>
    obtain ⟨k, rfl, hk, hj⟩ := hrel
    by_cases hlt : k < X.length
    · obtain ⟨ad, Ay, cy, e1, hcell, hyc, hCy⟩ := kl_at (HX.out wr hj.out.keep) k hlt hlt
      subst e1
      have hfit := dur_len hX6 HSM.out k hlt
      have hy2 := (HSM.out X[k] (List.getElem_mem hlt)).2
      have htk : X.take (k + 1) = X.take k ++ [X[k]] := List.take_succ_eq_append_getElem hlt
      have hkl : (X.take k).length = k := by rw [List.length_take]; omega
      have hlap := lap_fits (left := 0) (room := 5000) (file := 0) (by decide) (X.take k) X[k] (by omega) (by rw [hkl]; omega)
      rw [← htk, hkl] at hlap
      have HLAP := Lib.hid (fun W (h : JS w.heap.size w w3 S B (dF 0 5000 0 (X.take k)) [(L, 0, (k : Int), false)] W) (hC : Kd.C (Kd.int .u8) W Ay X[k].length X[k]) => lap_j h (by decide) (by omega) Ay cy X[k].length X[k] rfl hy2 hC)
      rw [hlap] at HLAP
      generalize X[k] = yk at hcell hyc hCy HLAP
      have HCY := Lib.hid hCy
      have hk0 : (0 : Int) ≤ (k : Int) := by omega
      have hka : (k : Int) < (X.length : Int) := by omega
      clear hfit hy2 htk hkl hlap hCy
      go_wp2_with fail
      refine (HLAP.out wr hj.out HCY.out).mono ?_
      rintro e w5 ⟨rfl, hj5⟩
      have HJ5 := Lib.hid hj5
      clear hj5
      go_wp2
      go_roundw
      case rel => exact ⟨k + 1, by go_num, by omega, HJ5⟩
      case measure => simp [intOf]; omega
    · obtain rfl : k = X.length := by omega
      rw [List.take_length] at hj
      have harm := arm_j hj.out 0 (by decide)
      have e0 : armD (dF 0 5000 0 X) 0 = ⟨H.fs9 (framesL 0 X) ((framesL 0 X).length : Int), 5000, false, true, 0⟩ := arm_dF 5000 X 0
      rw [e0] at harm
      have HARM := Lib.hid harm
      have hfl := frameL_length (X.length : Int) (by omega) y (by omega)
      obtain ⟨-, hFl⟩ := framesL_len X 0 (fun x hx => by have := (HSM.out x hx).1; omega) (by omega)
      have hlast := lap_last (left := 0) (room := 5000) (F := framesL 0 X) (y := y) (m := (X.length : Int)) (by omega) (by decide) (by decide) (by omega)
      have HLAST := Lib.hid hlast
      have HCRA := Lib.hid (inv_crash (-1) 5000 true false X y (fun x hx => by have := (HSM.out x hx).1; omega) (by omega) (by omega) keep flip)
      clear harm hfl hFl hlast hj e0
      go_wp2_with fail
      refine HARM.out.mono ?_
      rintro e w5 ⟨rfl, hj5⟩
      have HJ5 := Lib.hid hj5
      clear hj5 HARM
      go_wp2_with fail
      refine (HFEW.out w5 HJ5.out.low).mono ?_
      rintro e w6 ⟨v6, rfl, hR6, hb6⟩
      obtain ⟨A6, c6, rfl, -, hC6⟩ := Kd.R_reads hR6
      have hj6 := HJ5.out.grow hb6
      have hla := lap_j hj6 (by decide) (by omega) A6 c6 y.length y rfl HBB.out hC6
      rw [HLAST.out] at hla
      have HLA := Lib.hid hla
      clear hla hj6 hC6 hR6 hb6 HJ5 HFEW
      go_wp2_with fail
      refine HLA.out.mono ?_
      rintro e w7 ⟨rfl, hj7⟩
      have HJ7 := Lib.hid hj7
      clear hj7 HLA
      go_wp2_with fail
      refine (up_calls (HJ7.out.lg List.mem_cons_self)).mono ?_
      rintro e w8 ⟨rfl, rfl⟩
      go_wp2_with fail
      have hla2 := lap_j HJ7.out (by decide) (by omega) none 0 0 [] rfl (by simp) (none_C _)
      rw [lap_down _ _ (by simp)] at hla2
      refine hla2.mono ?_
      rintro e w9 ⟨rfl, hj9⟩
      have HJ9 := Lib.hid hj9
      clear hj9 hla2 HJ7
      go_wp2_with fail
      refine (len_calls (HJ9.out.lg List.mem_cons_self)).mono ?_
      rintro e w10 ⟨rfl, rfl⟩
      obtain ⟨a, fa, more, hcra, hsca, hrda, hopa⟩ := HCRA.out
      have hcr := crash1_j HJ9.out keep hkp flip hf
      rw [hcra] at hcr
      have HCR := Lib.hid hcr
      have HSCA := Lib.hid hsca
      have HRDA := Lib.hid hrda
      have HOPA := Lib.hid hopa
      clear hcr hcra hsca hrda hopa HJ9 HCRA
      go_wp2_with fail
      refine HCR.out.mono ?_
      rintro e w11 ⟨rfl, hj11⟩
      have HJ11 := Lib.hid hj11
      clear hj11 HCR
      go_wp2_with fail
      have hla3 := lap_j HJ11.out (by decide) (by omega) none 0 0 [] rfl (by simp) (none_C _)
      rw [lap_down _ _ (by simp)] at hla3
      refine hla3.mono ?_
      rintro e w12 ⟨rfl, hj12⟩
      have hop := open_j hj12 0 (by decide) HOPA.out
      rw [HRDA.out, HSCA.out] at hop
      have hgl : (X ++ more).length = X.length + more.length := List.length_append
      have hgt : (X ++ more).take X.length = X := List.take_left
      generalize X ++ more = G at hop hgl hgt
      have HOP := Lib.hid hop
      have HGT := Lib.hid hgt
      have HGL := Lib.hid hgl
      have hgx : X.length ≤ G.length := by omega
      clear hj12 hla3 hop hgl hgt HJ11 HSCA HRDA HOPA
      go_wp2_with fail
      refine HOP.out.mono ?_
      rintro e w13 ⟨L2, v13, rfl, hj13, hk13, hR13⟩
      obtain ⟨A13, c13, rfl, hc13, hC13⟩ := Kd.R_reads hR13
      have hcut := cut_rows A13 G.length c13 X.length (by omega)
      have hC13' := kl_take hC13 X.length hgx
      rw [HGT.out] at hC13'
      have HSAME := Lib.hid (same_lists_n A13 Ax c13 cx X.length X.length X X rfl rfl rfl (by omega) (fun x hx => by have := (HSM.out x hx).1; omega) w13 hC13' (HX.out w13 hk13))
      have HLOW := Lib.hid hj13.low
      have HSZ := Lib.hid hj13.size
      have hge : (X.length : Int) ≤ (G.length : Int) := by omega
      clear hj13 hk13 hR13 hC13 hC13' HOP HGT HGL
      go_wp2_with fail
      refine HSAME.out.mono ?_
      rintro e w14 ⟨rfl, hb14⟩
      have HB14 := Lib.hid (HLOW.out.trans (hb14.mono HSZ.out))
      have HS14 := Lib.hid (Nat.le_trans HSZ.out hb14.size)
      clear hb14
      go_wp2_with fail
      refine (lives_calls w14).mono ?_
      rintro e w15 ⟨rfl, hb15⟩
      go_wp2
      go_ret
      exact ⟨rfl, HB14.out.trans (hb15.mono HS14.out)⟩

end Go.Proofs.Ytjnbbmiccbjjbaa.Jnl
