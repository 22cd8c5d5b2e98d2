/- refuterlaw07.JournalDurable: it returns true. -/
import Derived.Test.YtjnbbmiccbjjbaaInvP
namespace Go.Proofs.Ytjnbbmiccbjjbaa.Jnl
open Go.RowKit Go.Proofs Go.Proofs.Ytjnbbmiccbjjbaa.Ma Go.Proofs.Ytjnbbmiccbjjbaa.Wire Go.Proofs.Ytjnbbmiccbjjbaa.Rdr Go.Proofs.Ytjnbbmiccbjjbaa.MapI Go.Proofs.Ytjnbbmiccbjjbaa.Scan Go.Proofs.Ytjnbbmiccbjjbaa.Few Go.Proofs.Ytjnbbmiccbjjbaa.Ref07 Go.Proofs.Ytjnbbmiccbjjbaa.Lives7 Go.Proofs.Ytjnbbmiccbjjbaa.Fr7 Go.Proofs.Ytjnbbmiccbjjbaa.Disk Go.Proofs.YtjnbbmiccbjjbaaW.PrintWords Go.Proofs.YtjnbbmiccbjjbaaW.PrintLast

theorem dur_flag {M : Nat} {X : List (List Int)} {k done tried : Nat} {d : Dsk} {down : Bool} (h : DurP M X k done tried d down) : (down = false ∧ done = k) ∨ (down = true ∧ done < k) := by
  rcases h with ⟨h1, _, h2, _⟩ | ⟨h1, _, h2, _⟩
  · exact .inl ⟨h2, h1⟩
  · exact .inr ⟨h2, h1⟩
set_option maxRecDepth 100000 in
set_option maxHeartbeats 8000000 in
theorem durable_law (w : World) (A0 : Option Addr) (c0 : Nat) (l : List Int) (h0 : Kd.C (Kd.int .i64) w A0 l.length l) (hl : ∀ x ∈ l, -9223372036854775808 ≤ x ∧ x ≤ 9223372036854775807) (_ : l.length ≤ 140737488351232) (_ : l.length ≤ c0)
    (when_ : Int) (hwh : -9223372036854775808 ≤ when_ ∧ when_ ≤ 9223372036854775807) (keep : Int) (hkp : -9223372036854775808 ≤ keep ∧ keep ≤ 9223372036854775807)
    (A1 : Option Addr) (c1 : Nat) (b : List Int) (h1 : Kd.C (Kd.int .u8) w A1 b.length b) (hb : ∀ x ∈ b, 0 ≤ x ∧ x ≤ 255) (_ : b.length ≤ 140737488351232) (hc1 : b.length ≤ c1) :
    Calls Try.prog 11 #[.slice A0 l.length c0, .int .i64 when_, .int .i64 keep, .slice A1 b.length c1] w fun e w' => e = .returned (.bool true) ∧ Below w.heap.size w w' := by
  have HREC := Lib.hid (fun (W : World) (h : Below w.heap.size w W) => records_calls A0 c0 l W (Kd.C_below h0 h) hl)
  have HFEW := Lib.hid (fun W (h : Below w.heap.size w W) => few_calls A1 c1 b 50 (by omega) hc1 W (Kd.C_below h1 h))
  have hbl : (b.take 50).length ≤ 50 := List.length_take_le _ _
  have hbb : ∀ x ∈ b.take 50, 0 ≤ x ∧ x ≤ 255 := fun x hx => hb x (List.mem_of_mem_take hx)
  generalize b.take 50 = y at HFEW hbl hbb
  have HBB := Lib.hid hbb
  clear h0 hl h1 hb hbb
  go_enter Try.func11, Try.ntmps11
  go_wp2_with fail
  refine (fresh_j w.heap.size w w (Below.refl _ _) (Nat.le_refl _) 5000 (by decide) (by decide)).mono ?_
  rintro e w1 ⟨B, rfl, hj1⟩
  rw [new_dF 5000 0] at hj1
  obtain ⟨hr0, ho0⟩ := open_dF (left := 0) (room := 5000) (file := 0) (by decide) [] (by simp) (by decide)
  have hop := open_j hj1 0 (by decide) (by rw [ho0])
  rw [hr0, ho0, (scans_frames [] (by simp) (by decide)).1] at hop
  have HOP := Lib.hid hop
  clear hop hr0 ho0 hj1
  go_wp2_with fail
  refine HOP.out.mono ?_
  rintro e w2 ⟨L, v2, rfl, hj2, -, -⟩
  have HJ2 := Lib.hid hj2
  clear hj2 HOP
  go_wp2_with fail
  refine (around_calls when_ 13 hwh (by decide) w2).mono ?_
  rintro e w2b ⟨M, rfl, hM, rfl⟩
  have harm := arm_j HJ2.out (M : Int) (by omega)
  rw [arm_dF] at harm
  have HARM := Lib.hid harm
  clear harm HJ2
  go_wp2_with fail
  refine HARM.out.mono ?_
  rintro e w2c ⟨rfl, hj2⟩
  have HJ2 := Lib.hid hj2
  clear hj2 HARM
  go_wp2_with fail
  refine (HREC.out w2c HJ2.out.low).mono ?_
  rintro e w3 ⟨v3, X, rfl, hR3, hxl, hxs, hb3⟩
  obtain ⟨Ax, cx, rfl, hcx, -⟩ := Kd.R_reads hR3
  have hX6 : X.length ≤ 6 := by omega
  have HSM := Lib.hid hxs
  have hj3 := (HJ2.out.news hb3).1
  have HXC := Lib.hid (fun (W : World) h => list_keep (Kd.R_mono (ok' := fun k => w2c.heap.size ≤ k ∧ k < w3.heap.size) (Kd.R_bound hR3) (fun k hk => ⟨hk.2.1, hk.2.2.1⟩)) W h)
  have HJ3 := Lib.hid hj3
  clear hxl hxs hR3 hb3 hj3 HJ2 HREC
  generalize hS : (fun k => (False ∨ w1.heap.size ≤ k ∧ k ≠ L ∧ k < w2.heap.size) ∨ w2c.heap.size ≤ k ∧ k < w3.heap.size) = S at HJ3
  have hS2 : ∀ k, w2c.heap.size ≤ k ∧ k < w3.heap.size → S k := fun k hk => by rw [← hS]; exact .inr hk
  have HS := Lib.hid hS2
  clear hS hS2
  have HX := Lib.hid (fun (W : World) (h : ∀ k, S k → W.heap[k]? = w3.heap[k]?) => HXC.out W (fun k hk => h k (HS.out k hk)))
  clear HXC
  have HD0 : Hid (DurP M X 0 0 0 ⟨H.fs9 (framesL 0 []) ((framesL 0 []).length : Int), 5000, false, true, (M : Int)⟩ false) := Lib.hid (.inl ⟨rfl, rfl, rfl, by omega, by simp⟩)
  generalize (⟨H.fs9 (framesL 0 []) ((framesL 0 []).length : Int), 5000, false, true, (M : Int)⟩ : Dsk) = d0 at HD0 HJ3
  go_wp2
  go_loopw [14, 15, 16] (fun dn tr i wr => ∃ (k done tried : Nat) (d : Dsk) (down : Bool), i = .int .i64 k ∧ dn = .int .i64 done ∧ tr = .int .i64 tried ∧ k ≤ X.length ∧ done ≤ k ∧ tried ≤ 7 ∧ Hid (DurP M X k done tried d down) ∧ Hid (JS w.heap.size w w3 S B d [(L, 0, (done : Int), down)] wr)) (fun _ _ i _ => X.length - (intOf i).toNat)
  case atStart => exact ⟨0, 0, 0, d0, false, rfl, rfl, rfl, Nat.zero_le _, Nat.zero_le _, by omega, HD0, HJ3⟩
  case round =>
    obtain ⟨k, done, tried, d, down, rfl, rfl, rfl, hk, hdk, htr, hD, hj⟩ := hrel
    by_cases hlt : k < X.length
    · obtain ⟨ad, Ay, cy, e1, hcell, hyc, hCy⟩ := kl_at (HX.out wr hj.out.keep) k hlt hlt
      subst e1
      have hy2 := (HSM.out X[k] (List.getElem_mem hlt)).2
      have HR := Lib.hid (dur_round hX6 HSM.out hD.out hlt)
      have HLAP := Lib.hid (lap_j hj.out (by decide) (by omega) Ay cy X[k].length X[k] rfl hy2 hCy)
      generalize X[k] = yk at hcell hyc hCy HLAP HR hy2
      have hk0 : (0 : Int) ≤ (k : Int) := by omega
      have hka : (k : Int) < (X.length : Int) := by omega
      clear hy2 hCy hD hj
      rcases HR.out with ⟨d', hla, hd'⟩ | ⟨rfl, d', hla, hd'⟩ | ⟨hne, d', hla, hd'⟩
      · rw [hla] at HLAP
        have HD' := Lib.hid hd'
        clear hla hd' HR
        go_wp2_with fail
        refine HLAP.out.mono ?_
        rintro e w5 ⟨rfl, hj5⟩
        have HJ5 := Lib.hid hj5
        clear hj5
        go_wp2
        go_roundw
        case rel => exact ⟨k + 1, done + 1, done + 1, d', false, by go_num, by go_num, by go_num, by omega, by omega, by omega, HD', HJ5⟩
        case measure => simp [intOf]; omega
      · rw [hla] at HLAP
        have HD' := Lib.hid hd'
        clear hla hd' HR
        go_wp2_with fail
        refine HLAP.out.mono ?_
        rintro e w5 ⟨rfl, hj5⟩
        have HJ5 := Lib.hid hj5
        clear hj5
        go_wp2
        go_roundw
        case rel => exact ⟨done + 1, done, done + 1, d', true, by go_num, rfl, by go_num, by omega, by omega, by omega, HD', HJ5⟩
        case measure => simp [intOf]; omega
      · rw [hla] at HLAP
        have HD' := Lib.hid hd'
        have hne2 : ((done : Int) == (k : Int)) = false := by simp; omega
        clear hla hd' HR
        go_wp2_with fail
        refine HLAP.out.mono ?_
        rintro e w5 ⟨rfl, hj5⟩
        have HJ5 := Lib.hid hj5
        clear hj5
        go_wp2
        go_roundw
        case rel => exact ⟨k + 1, done, tried, d', true, by go_num, rfl, rfl, by omega, by omega, by omega, HD', HJ5⟩
        case measure => simp [intOf]; omega
    · obtain rfl : k = X.length := by omega
      have HCRA := Lib.hid (dur_crash hX6 HSM.out hD.out rfl keep)
      have HJ := hj
      have hfl := dur_flag hD.out
      clear hj hD
      rcases hfl with ⟨rfl, hdn⟩ | ⟨rfl, hdn⟩
      all_goals
        first
        | (have hbo : ((done : Int) == (X.length : Int)) = true := by simp; omega)
        | (have hbo : ((done : Int) == (X.length : Int)) = false := by simp; omega)
        clear hdn
        go_wp2_with fail
        refine (len_calls (HJ.out.lg List.mem_cons_self)).mono ?_
        rintro e w5 ⟨rfl, rfl⟩
        go_wp2_with fail
        refine (up_calls (HJ.out.lg List.mem_cons_self)).mono ?_
        rintro e w5 ⟨rfl, rfl⟩
        obtain ⟨left, m, hm1, hm2, hm3, hsc, hod⟩ := HCRA.out
        have hcr := crash1_j HJ.out keep hkp (-1) (by decide)
        generalize crashD d [keep] (-1) = dc at hsc hod hcr
        have HCR := Lib.hid hcr
        have HSC := Lib.hid hsc
        have HOD := Lib.hid hod
        clear hcr hsc hod HJ HCRA
        go_wp2_with fail
        refine HCR.out.mono ?_
        rintro e w6 ⟨rfl, hj6⟩
        clear hbo
        have hop := open_j hj6 0 (by decide) (by rw [HOD.out])
        rw [HSC.out, HOD.out] at hop
        have hgl : (X.take m).length = m := by rw [List.length_take]; omega
        rw [hgl] at hop
        have hfit := lap_fits (left := left) (room := 5000) (file := 0) (by decide) (X.take m) y (by omega) (by
          obtain ⟨-, hFl⟩ := framesL_len (X.take m) 0 (fun x hx => by have := (HSM.out x (List.mem_of_mem_take hx)).1; omega) (by omega)
          have hfy := frameL_length ((X.take m).length : Int) (by omega) y (by omega)
          omega)
        rw [hgl] at hfit
        have hG200 : ∀ x ∈ X.take m, x.length ≤ 200 := fun x hx => by have := (HSM.out x (List.mem_of_mem_take hx)).1; omega
        have HG200 := Lib.hid hG200
        clear hG200
        generalize hXE : X.take m = G at hop hfit hgl HG200
        have hXG := Lib.hid hXE
        clear hXE
        have hG255 := (hj6.ok)
        have HOP := Lib.hid hop
        have HFIT := Lib.hid hfit
        have HGL := Lib.hid hgl
        clear hop hfit hgl hj6 HSC HOD HCR hG255
        go_wp2_with fail
        refine HOP.out.mono ?_
        rintro e w7 ⟨L2, v7, rfl, hj7, hk7, hR7⟩
        obtain ⟨A7, c7, rfl, hc7, hC7⟩ := Kd.R_reads hR7
        rw [HGL.out] at hc7 ⊢
        have HJ7 := Lib.hid hj7
        have hcut := cut_rows Ax X.length cx m (by omega)
        have hX7 := kl_take (HX.out w7 hk7) m hm3
        have HSAME := Lib.hid (same_lists_n A7 Ax c7 cx m m G (X.take m) HGL.out (by rw [hXG.out]; exact HGL.out) hXG.out.symm (by omega) (fun x hx => by have := HG200.out x hx; omega) w7 hC7 (by rw [hXG.out, HGL.out]; rw [hXG.out] at hX7; exact hX7))
        have hd1 : (done : Int) ≤ (m : Int) := by omega
        have hd2 : (m : Int) ≤ (tried : Int) := by omega
        clear hj7 hk7 hR7 hC7 hX7 HOP
        go_wp2_with fail
        refine HSAME.out.mono ?_
        rintro e w8 ⟨rfl, hb8⟩
        have HJ8 := Lib.hid (HJ7.out.grow hb8)
        clear hb8 HSAME HJ7
        go_wp2_with fail
        refine (len_calls (HJ8.out.lg List.mem_cons_self)).mono ?_
        rintro e w9 ⟨rfl, rfl⟩
        go_wp2_with fail
        refine (HFEW.out w8 HJ8.out.low).mono ?_
        rintro e w10 ⟨v10, rfl, hR10, hb10⟩
        obtain ⟨A10, c10, rfl, -, hC10⟩ := Kd.R_reads hR10
        have hj10 := (HJ8.out.news hb10).1
        have HY10 := Lib.hid (fun (W : World) h => row_keep (Kd.R_mono (ok' := fun k => w8.heap.size ≤ k ∧ k < w10.heap.size) (Kd.R_bound hR10) (fun k hk => ⟨hk.2.1, hk.2.2.1⟩)) W h)
        have hla := lap_j hj10 (by decide) (by omega) A10 c10 y.length y rfl HBB.out hC10
        rw [HFIT.out] at hla
        have HLA := Lib.hid hla
        clear hla hj10 hC10 hR10 hb10 HJ8
        go_wp2_with fail
        refine HLA.out.mono ?_
        rintro e w11 ⟨rfl, hj11⟩
        have hgs : ∀ x ∈ G ++ [y], x.length ≤ 200 := fun x hx => (List.mem_append.1 hx).elim (HG200.out x) (fun e => by simp only [List.mem_singleton] at e; subst e; omega)
        have hgn : (G ++ [y]).length = m + 1 := by rw [List.length_append, HGL.out]; rfl
        obtain ⟨hr1, ho1⟩ := open_dF (left := left) (room := 5000) (file := 0) (by decide) (G ++ [y]) hgs (by omega)
        have hop := open_j hj11 0 (by decide) (by rw [ho1])
        rw [hr1, ho1, (scans_frames (G ++ [y]) hgs (by omega)).1, hgn] at hop
        have hgm : ∀ h : m < (G ++ [y]).length, (G ++ [y])[m] = y := fun h => by rw [List.getElem_append_right (by rw [HGL.out]; exact Nat.le_refl _)]; simp
        generalize G ++ [y] = Z at hop hgn hgm
        have HOP := Lib.hid hop
        have HGN := Lib.hid hgn
        have HGM := Lib.hid hgm
        clear hop hgn hgm hr1 ho1 hgs hj11 HLA
        go_wp2_with fail
        refine HOP.out.mono ?_
        rintro e w12 ⟨L3, v12, rfl, hj12, hk12, hR12⟩
        obtain ⟨A12, c12, rfl, hc12, hC12⟩ := Kd.R_reads hR12
        rw [HGN.out] at hc12 ⊢
        obtain ⟨ad, Ay, cy, e1, hcell, hyc, hCy⟩ := kl_at hC12 m (by rw [HGN.out]; omega) (by rw [HGN.out]; omega)
        subst e1
        rw [HGM.out (by rw [HGN.out]; omega)] at hcell hyc hCy
        have HCY := Lib.hid hCy
        have HYK := Lib.hid (HY10.out w12 (fun k hk => hk12 k (.inr hk)))
        have HLOW := Lib.hid hj12.low
        have HSZ := Lib.hid hj12.size
        clear hj12 hk12 hR12 hC12 hCy HY10 HOP
        have hm0 : (0 : Int) ≤ (m : Int) := by omega
        have hm1 : (m : Int) < (m : Int) + 1 := by omega
        go_wp2_with fail
        refine (same_yes Ay A10 cy c10 y.length y.length y y rfl rfl rfl (by omega) w12 HCY.out HYK.out).mono ?_
        rintro e w13 ⟨rfl, n13, rfl⟩
        have HB13 := Lib.hid (show Below w12.heap.size w12 (w12.drewN n13) from pw_below_drewN (Below.refl _ _) n13)
        go_wp2_with fail
        refine (lives_calls _).mono ?_
        rintro e w14 ⟨rfl, hb14⟩
        go_wp2
        go_ret
        exact ⟨rfl, HLOW.out.trans ((HB13.out.trans (hb14.mono HB13.out.size)).mono HSZ.out)⟩

end Go.Proofs.Ytjnbbmiccbjjbaa.Jnl
