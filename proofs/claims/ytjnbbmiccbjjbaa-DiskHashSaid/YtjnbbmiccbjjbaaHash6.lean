/- refuterlaw06.DiskHash: it returns true. -/
import Derived.Test.YtjnbbmiccbjjbaaBun
import Derived.Test.YtjnbbmiccbjjbaaHashP
import Derived.Test.YtjnbbmiccbjjbaaHashB
namespace Go.Proofs.Ytjnbbmiccbjjbaa.Disk.H
open Go.Proofs.Ytjnbbmiccbjjbaa.Disk Go.RowKit Go.Proofs Go.Proofs.Ytjnbbmiccbjjbaa.Ma Go.Proofs.Ytjnbbmiccbjjbaa.Wire Go.Proofs.Ytjnbbmiccbjjbaa.Rdr Go.Proofs.Ytjnbbmiccbjjbaa.MapI Go.Proofs.Ytjnbbmiccbjjbaa.Few Go.Proofs.YtjnbbmiccbjjbaaW.PrintWords Go.Proofs.YtjnbbmiccbjjbaaW.PrintLast

theorem bytes_n (A : Option Addr) (cap m : Nat) (b : List Int) (hm : b.length = m) (hb255 : ∀ x ∈ b, 0 ≤ x ∧ x ≤ 255) (hbl : m ≤ 70368744177664) (w : World) (hC : Kd.C (Kd.int .u8) w A b.length b) :
    Calls Try.prog 34 #[.string { data := #[102] }, .slice A m cap] w fun e w' => e = .returned (.int .u64 (bytesH sF b)) ∧ Below w.heap.size w w' := by
  subst hm
  exact Hash.bytes_calls { data := #[102] } (by decide) A cap b hb255 hbl w hC

set_option maxRecDepth 100000 in
set_option maxHeartbeats 8000000 in
theorem hash_law (w : World) (A0 : Option Addr) (c0 : Nat) (b : List Int) (h0 : Kd.C (Kd.int .u8) w A0 b.length b) (hb : ∀ x ∈ b, 0 ≤ x ∧ x ≤ 255) (_ : b.length ≤ 140737488351232) (hc0 : b.length ≤ c0) (flip : Int) (hf : -9223372036854775808 ≤ flip ∧ flip ≤ 9223372036854775807) (synced : Bool) :
    Calls Try.prog 9 #[.slice A0 b.length c0, .int .i64 flip, .bool synced] w fun e w' => e = .returned (.bool true) ∧ Below w.heap.size w w' := by
  have HFEW := Lib.hid (fun W (h : Below w.heap.size w W) => few_calls A0 c0 b 7 (by omega) hc0 W (Kd.C_below h0 h))
  have hbl : (b.take 7).length ≤ 7 := List.length_take_le _ _
  have hbb : ∀ x ∈ b.take 7, 0 ≤ x ∧ x ≤ 255 := fun x hx => hb x (List.mem_of_mem_take hx)
  generalize b.take 7 = bs at HFEW hbl hbb
  have HBB := Lib.hid hbb
  clear h0 hb hbb
  go_enter Try.func9, Try.ntmps9
  go_wp2_with fail
  refine (new_b w.heap.size w w (Below.refl _ _) (Nat.le_refl _) 100 (by decide) (by decide)).mono ?_
  rintro e w1 ⟨B, D, rfl, hd1, -, -⟩
  have HD1 := Lib.hid hd1
  have HLT1 := Lib.hid hd1.dk.lt
  clear hd1
  go_wp2_with fail
  refine (HFEW.out w1 HD1.out.low).mono ?_
  rintro e w2 ⟨v2, rfl, hR2, hb2⟩
  have HD2 := Lib.hid (HD1.out.grow hb2)
  obtain ⟨A2, c2, rfl, -, -⟩ := Kd.R_reads hR2
  have HR2 := Lib.hid hR2
  have HSZ := hb2.size
  have HD1s := Lib.hid HD1.out.size
  clear hR2 hb2 HD1
  go_wp2_with (at_builtin; refine Kd.R_append (Kd.int .u8) (w0 := w2) w1.heap.size rfl (.tmp 23) (.tmp 24) 27 5 (.int .u8 0) 1 rfl Try.underlying27 info8 rfl (by decide) (by decide) (.slice A2 bs.length c2) bs 1 [.int .u8 1] (fun _ => True) (fun _ => False) rfl rfl rfl (fun _ h => h.elim) (fun _ _ => trivial) HR2.out (Below.refl _ _) HSZ (by omega) ?_; intro v3 w3 ho3 hb3 hg3 hx3)
  obtain ⟨A3, c3, rfl, -, -⟩ := Kd.R_reads ho3
  have hd3 := HD2.out.grown hg3 (fun k hk e => by have h1 := HLT1.out k e; have h2 := own_base (Kd.own_of_R HR2.out) k hk; omega) (HD2.out.low.trans (hb3.mono (Nat.le_trans HD1s.out (Nat.le_refl _))))
  have hl : (bs ++ [1]).length = bs.length + 1 := by simp
  have hob : ∀ x ∈ bs ++ [1], 0 ≤ x ∧ x ≤ 255 := fun x hx => (List.mem_append.1 hx).elim (HBB.out x) (fun e => by simp only [List.mem_singleton] at e; subst e; decide)
  generalize bs ++ [1] = own at ho3 hl hob hd3 ⊢
  have hl8 : own.length ≤ 8 := by omega
  have hl0 : 0 < own.length := by omega
  have HOB := Lib.hid hob
  have HR3 := Lib.hid ho3
  have HD3 := Lib.hid hd3
  clear hl hob ho3 hd3 hb3 hg3 hx3 HR2 HD2 HBB HFEW
  have hap := append_b HD3.out 0 (by decide) A3 c3 own.length own rfl HOB.out (by omega) (Kd.R_reads' HR3.out).2.2
  rw [new9, append9 (a := []) (f := 0) (fun _ => rfl) (by simp only [List.length_nil]; omega), List.nil_append] at hap
  have HAP := Lib.hid hap
  clear hap
  go_wp2_with fail
  refine HAP.out.mono ?_
  rintro e w4 ⟨rfl, D4, hd4, -, -, hk4⟩
  have HR4 := Lib.hid (row_kd HR3.out hk4)
  have HD4 := Lib.hid hd4
  clear hd4 hk4 HR3 HD3
  have hlit : ∀ (W : World) (D : Nat → Prop), (∀ k, D k → k < W.heap.size) → ∀ W', KD D (W.alloc (.cells #[.int .i64 8] 3)) W' → Kd.C (Kd.int .i64) W' (some ⟨W.heap.size, 0, none⟩) [(8 : Int)].length [8] := fun W D hD => lit64_keep W D hD [8] (by decide)
  have HLIT := Lib.hid hlit
  clear hlit
  cases synced
  · go_wp2_with fail
    have hA : Below w4.heap.size w4 (w4.alloc (.cells #[.int .i64 8] 3)) := (Below.refl _ _).alloc (Nat.le_refl _) _
    have hcr := crash_b (HD4.out.grow hA) (some ⟨w4.heap.size, 0, none⟩) 1 1 [8] rfl (by decide) (by decide) flip hf (HLIT.out w4 D4 HD4.out.dk.lt)
    rw [show dsk9 100 own 0 = dsk9 100 own ((0 : Nat) : Int) from rfl, crash9 (Nat.zero_le _)] at hcr
    refine hcr.mono ?_
    rintro e w5 ⟨rfl, D5, hd5, -, -, hk5⟩
    have hh := hash_loose hl8 hl0 HOB.out flip
    have hn : n9 own.length 0 8 = own.length := by unfold n9; omega
    have hxl := x9_len (a := own) (f := 0) (n := n9 own.length 0 8) (by omega) flip
    have hR5 := row_kd (Kd.R_below HR4.out hA) hk5
    rw [hn] at hxl hd5 hh
    generalize x9 own 0 own.length flip = X at hxl hd5 hh
    clear hn
    by_cases hfl : flip < 0
    · rw [decide_eq_true hfl] at hh
      have HXL := Lib.hid hxl
      have HHE := Lib.hid hh
      have HR5 := Lib.hid hR5
      have hxb := (readD_ok hd5.ok 0).1
      rw [read9] at hxb
      have HXB := Lib.hid hxb
      have hrd := read_b hd5 0 (by decide)
      rw [read9] at hrd
      have HRD := Lib.hid hrd
      clear hxl hh hR5 hxb hrd hcr hd5 hk5 hA
      go_wp2_with fail
      refine HRD.out.mono ?_
      rintro e w6 ⟨v6, rfl, hR6, hd6, hb6⟩
      obtain ⟨A6, c6, rfl, -, hC6⟩ := Kd.R_reads hR6
      rw [HXL.out]
      have hCo := (Kd.R_reads' (Kd.R_below HR5.out hb6)).2.2
      have HC6 := Lib.hid hC6
      have HCO := Lib.hid hCo
      have HLOW := Lib.hid hd6.low
      have HS6 := Lib.hid hd6.size
      clear hR6 hC6 hCo hd6 hb6 HR5 HRD
      go_wp2_with fail
      refine (bytes_n A6 c6 own.length X HXL.out HXB.out (by omega) w6 HC6.out).mono ?_
      rintro e w7 ⟨rfl, hb7⟩
      have HB7 := Lib.hid hb7
      clear hb7
      go_wp2_with fail
      refine (bytes_n A3 c3 own.length own rfl HOB.out (by omega) w7 (Kd.C_below HCO.out HB7.out)).mono ?_
      rintro e w8 ⟨rfl, hb8⟩
      have HB8 := Lib.hid (HLOW.out.trans ((HB7.out.trans (hb8.mono HB7.out.size)).mono HS6.out))
      have HS8 := Lib.hid (Nat.le_trans HS6.out (Nat.le_trans HB7.out.size hb8.size))
      have heq := HHE.out
      clear hb8
      go_wp2_with fail
      refine (lives6_calls w8).mono ?_
      rintro e w9 ⟨rfl, hb9⟩
      go_wp2
      go_ret
      exact ⟨rfl, HB8.out.trans (hb9.mono HS8.out)⟩
    · have hfd : decide (flip < 0) = false := decide_eq_false hfl
      rw [hfd] at hh
      have HXL := Lib.hid hxl
      have HHE := Lib.hid hh
      have HR5 := Lib.hid hR5
      have hxb := (readD_ok hd5.ok 0).1
      rw [read9] at hxb
      have HXB := Lib.hid hxb
      have hrd := read_b hd5 0 (by decide)
      rw [read9] at hrd
      have HRD := Lib.hid hrd
      clear hxl hh hR5 hxb hrd hcr hd5 hk5 hA
      go_wp2_with fail
      refine HRD.out.mono ?_
      rintro e w6 ⟨v6, rfl, hR6, hd6, hb6⟩
      obtain ⟨A6, c6, rfl, -, hC6⟩ := Kd.R_reads hR6
      rw [HXL.out]
      have hCo := (Kd.R_reads' (Kd.R_below HR5.out hb6)).2.2
      have HC6 := Lib.hid hC6
      have HCO := Lib.hid hCo
      have HLOW := Lib.hid hd6.low
      have HS6 := Lib.hid hd6.size
      clear hR6 hC6 hCo hd6 hb6 HR5 HRD
      go_wp2_with fail
      refine (bytes_n A6 c6 own.length X HXL.out HXB.out (by omega) w6 HC6.out).mono ?_
      rintro e w7 ⟨rfl, hb7⟩
      have HB7 := Lib.hid hb7
      clear hb7
      go_wp2_with fail
      refine (bytes_n A3 c3 own.length own rfl HOB.out (by omega) w7 (Kd.C_below HCO.out HB7.out)).mono ?_
      rintro e w8 ⟨rfl, hb8⟩
      have HB8 := Lib.hid (HLOW.out.trans ((HB7.out.trans (hb8.mono HB7.out.size)).mono HS6.out))
      have HS8 := Lib.hid (Nat.le_trans HS6.out (Nat.le_trans HB7.out.size hb8.size))
      have heq := HHE.out
      clear hb8
      go_wp2_with fail
      refine (lives6_calls w8).mono ?_
      rintro e w9 ⟨rfl, hb9⟩
      go_wp2
      go_ret
      exact ⟨rfl, HB8.out.trans (hb9.mono HS8.out)⟩
  · go_wp2_with fail
    have hsy := sync_b HD4.out
    rw [sync9] at hsy
    refine hsy.mono ?_
    rintro e w4b ⟨rfl, D4b, hd4b, -, -, hk4b⟩
    have HR4b := Lib.hid (row_kd HR4.out hk4b)
    have HD4b := Lib.hid hd4b
    clear hsy hd4b hk4b HR4 HD4
    go_wp2_with fail
    have hA : Below w4b.heap.size w4b (w4b.alloc (.cells #[.int .i64 8] 3)) := (Below.refl _ _).alloc (Nat.le_refl _) _
    have hcr := crash_b (HD4b.out.grow hA) (some ⟨w4b.heap.size, 0, none⟩) 1 1 [8] rfl (by decide) (by decide) flip hf (HLIT.out w4b D4b HD4b.out.dk.lt)
    rw [crash9 (Nat.le_refl _), hash_firm] at hcr
    refine hcr.mono ?_
    rintro e w5 ⟨rfl, D5, hd5, -, -, hk5⟩
    have hR5 := row_kd (Kd.R_below HR4b.out hA) hk5
    have hxl : own.length = own.length := rfl
    have hh : (bytesH sF own == bytesH sF own) = true := by simp
    have HXL := Lib.hid hxl
    have HHE := Lib.hid hh
    have HR5 := Lib.hid hR5
    have hxb := (readD_ok hd5.ok 0).1
    rw [read9] at hxb
    have HXB := Lib.hid hxb
    have hrd := read_b hd5 0 (by decide)
    rw [read9] at hrd
    have HRD := Lib.hid hrd
    clear hxl hh hR5 hxb hrd hcr hd5 hk5 hA
    go_wp2_with fail
    refine HRD.out.mono ?_
    rintro e w6 ⟨v6, rfl, hR6, hd6, hb6⟩
    obtain ⟨A6, c6, rfl, -, hC6⟩ := Kd.R_reads hR6
    have hCo := (Kd.R_reads' (Kd.R_below HR5.out hb6)).2.2
    have HC6 := Lib.hid hC6
    have HCO := Lib.hid hCo
    have HLOW := Lib.hid hd6.low
    have HS6 := Lib.hid hd6.size
    clear hR6 hC6 hCo hd6 hb6 HR5 HRD
    go_wp2_with fail
    refine (bytes_n A6 c6 own.length own rfl HXB.out (by omega) w6 HC6.out).mono ?_
    rintro e w7 ⟨rfl, hb7⟩
    have HB7 := Lib.hid hb7
    clear hb7
    go_wp2_with fail
    refine (bytes_n A3 c3 own.length own rfl HOB.out (by omega) w7 (Kd.C_below HCO.out HB7.out)).mono ?_
    rintro e w8 ⟨rfl, hb8⟩
    have HB8 := Lib.hid (HLOW.out.trans ((HB7.out.trans (hb8.mono HB7.out.size)).mono HS6.out))
    have HS8 := Lib.hid (Nat.le_trans HS6.out (Nat.le_trans HB7.out.size hb8.size))
    have heq := HHE.out
    clear hb8
    go_wp2_with fail
    refine (lives6_calls w8).mono ?_
    rintro e w9 ⟨rfl, hb9⟩
    go_wp2
    go_ret
    exact ⟨rfl, HB8.out.trans (hb9.mono HS8.out)⟩

end Go.Proofs.Ytjnbbmiccbjjbaa.Disk.H
