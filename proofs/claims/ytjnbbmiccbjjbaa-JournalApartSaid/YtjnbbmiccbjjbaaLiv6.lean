/- lives of the laws of package disk: it returns true. -/
import Derived.Test.YtjnbbmiccbjjbaaCopy
import Derived.Test.YtjnbbmiccbjjbaaLiv6P
import Derived.Test.YtjnbbmiccbjjbaaFew
namespace Go.Proofs.Ytjnbbmiccbjjbaa.Disk
open Go.RowKit Go.Proofs Go.Proofs.Ytjnbbmiccbjjbaa.Ma Go.Proofs.Ytjnbbmiccbjjbaa.Wire Go.Proofs.Ytjnbbmiccbjjbaa.Rdr Go.Proofs.Ytjnbbmiccbjjbaa.MapI Go.Proofs.Ytjnbbmiccbjjbaa.Few Go.Proofs.YtjnbbmiccbjjbaaW.PrintWords Go.Proofs.YtjnbbmiccbjjbaaW.PrintLast

/-- A literal of bytes, of ints. -/
theorem lit8_R (w : World) (xs : List Int) (h : xs.length ≤ maxLen) : Kd.R (Kd.int .u8) 5 (w.alloc (.cells (nums .u8 xs).toArray 5)) w.heap.size (fun _ => True) (.slice (some ⟨w.heap.size, 0, none⟩) xs.length xs.length) xs :=
  Kd.R_of_own (World.ownsRow_lit (size := 1) w (nums .u8 xs).toArray xs.length (Nat.le_refl _) h (by simp [nums])) (fun _ _ => trivial)
theorem lit8_C (w : World) (xs : List Int) (h : xs.length ≤ maxLen) : Kd.C (Kd.int .u8) (w.alloc (.cells (nums .u8 xs).toArray 5)) (some ⟨w.heap.size, 0, none⟩) xs.length xs := (Kd.R_reads' (lit8_R w xs h)).2.2
theorem lit64_R (w : World) (xs : List Int) (h : xs.length ≤ maxLen) : Kd.R (Kd.int .i64) 3 (w.alloc (.cells (nums .i64 xs).toArray 3)) w.heap.size (fun _ => True) (.slice (some ⟨w.heap.size, 0, none⟩) xs.length xs.length) xs :=
  Kd.R_of_own (World.ownsRow_lit (size := 1) w (nums .i64 xs).toArray xs.length (Nat.le_refl _) h (by simp [nums])) (fun _ _ => trivial)
/-- A literal of ints reads as it stands whatever a disk that stood before it does. -/
theorem lit64_keep (w : World) (D : Nat → Prop) (hD : ∀ k, D k → k < w.heap.size) (xs : List Int) (h : xs.length ≤ maxLen) : ∀ W, KD D (w.alloc (.cells (nums .i64 xs).toArray 3)) W → Kd.C (Kd.int .i64) W (some ⟨w.heap.size, 0, none⟩) xs.length xs := by
  intro W hk
  have h1 := Kd.R_step (w1 := W) (Kd.R_bound (lit64_R w xs h)) (fun k ho hl => hk.block k hl (fun e => by have := hD k e; have := ho.2.1; omega))
  exact (Kd.R_reads' h1).2.2
theorem none_C (W : World) : Kd.C (Kd.int .u8) W none ([] : List Int).length [] := (Kd.R_reads' (Kd.R_nil (Kd.int .u8) 5 W 0 (fun _ => True))).2.2
theorem none_C64 (W : World) : Kd.C (Kd.int .i64) W none ([] : List Int).length [] := (Kd.R_reads' (Kd.R_nil (Kd.int .i64) 3 W 0 (fun _ => True))).2.2
/-- A row of bytes stays whatever a disk does. -/
theorem row_kd {W W' : World} {D : Nat → Prop} {base : Nat} {v : Value} {xs : List Int} (h : Kd.R (Kd.int .u8) 5 W base (fun _ => True) v xs) (hk : KD D W W') : Kd.R (Kd.int .u8) 5 W' base (fun _ => True) v xs := by
  refine Kd.R_mono (Kd.R_step (w1 := W') (Kd.R_bound h) (fun k ho _ => ?_)) (fun _ _ => trivial)
  obtain ⟨_, _, _, q, hq, cells, hc⟩ := ho
  have hq' : q = 5 := by simpa [Kd.int, Kd.scalar] using hq
  rw [hq'] at hc
  exact hk.bytes k cells hc

set_option maxRecDepth 100000 in
set_option maxHeartbeats 8000000 in
theorem lives6_calls (w : World) : Calls Try.prog 21 #[] w fun e w' => e = .returned (.bool true) ∧ Below w.heap.size w w' := by
  have hk0 : DOk (newDsk 100) := DOk.new (by decide) (by decide)
  have k1 := hk0.append 3 (bs := [1, 2]) (by decide)
  rw [liv_1] at k1
  have k2 := k1.sync
  rw [liv_2] at k2
  have k3 := k2.append 3 (bs := [255]) (by decide)
  rw [liv_3] at k3
  have k4 := k3.crash [1] 7
  rw [liv_4] at k4
  have HK := Lib.hid (And.intro hk0 (And.intro k1 (And.intro k2 (And.intro k3 k4))))
  clear hk0 k1 k2 k3 k4
  go_enter Try.func21, Try.ntmps21
  go_wp2_with fail
  refine (new_calls 100 (by decide) (by decide) w).mono ?_
  rintro e w1 ⟨B, D, rfl, hd1, hD1, hB1⟩
  have HD1 := Lib.hid hd1
  have HDD1 := Lib.hid hD1
  have HB1 := Lib.hid hB1
  clear hd1 hD1 hB1
  go_wp2_with fail
  have hA1 : Below w1.heap.size w1 (w1.alloc (.cells #[.int .u8 1, .int .u8 2] 5)) := (Below.refl _ _).alloc (Nat.le_refl _) _
  refine (append_calls D B (newDsk 100) 3 (by decide) HK.out.1.left HK.out.1.room HK.out.1.used' (some ⟨w1.heap.size, 0, none⟩) 2 [1, 2] (by decide) _ (HD1.out.grow hA1) (lit8_C w1 [1, 2] (by decide))).mono ?_
  rintro e w2 ⟨rfl, D2, hd2, hs2, hn2, hk2⟩
  rw [liv_1] at hd2
  have HD2 := Lib.hid hd2
  have HN2 := Lib.hid (fun k (hk : D2 k) => show w.heap.size ≤ k from (hn2 k hk).elim (HDD1.out k) (fun e => by have := HB1.out.size; simp only [World.size_alloc] at e; omega))
  have HB2 := Lib.hid (HB1.out.trans ((hA1.mono HB1.out.size).trans (hk2.below HDD1.out (by have := HB1.out.size; simp only [World.size_alloc]; omega))))
  clear hd2 hs2 hn2 hk2 hA1 HD1 HDD1 HB1
  go_wp2_with fail
  refine (sync_calls D2 B e1 HK.out.2.1.left w2 HD2.out).mono ?_
  rintro e w3 ⟨rfl, hd3, hk3⟩
  rw [liv_2] at hd3
  have HD3 := Lib.hid hd3
  have HB3 := Lib.hid (HB2.out.trans (hk3.below HN2.out HB2.out.size))
  clear hd3 hk3 HD2 HB2
  go_wp2_with fail
  have hA3 : Below w3.heap.size w3 (w3.alloc (.cells #[.int .u8 255] 5)) := (Below.refl _ _).alloc (Nat.le_refl _) _
  refine (append_calls D2 B e2 3 (by decide) HK.out.2.2.1.left HK.out.2.2.1.room HK.out.2.2.1.used' (some ⟨w3.heap.size, 0, none⟩) 1 [255] (by decide) _ (HD3.out.grow hA3) (lit8_C w3 [255] (by decide))).mono ?_
  rintro e w4 ⟨rfl, D4, hd4, hs4, hn4, hk4⟩
  rw [liv_3] at hd4
  have HD4 := Lib.hid hd4
  have HN4 := Lib.hid (fun k (hk : D4 k) => show w.heap.size ≤ k from (hn4 k hk).elim (HN2.out k) (fun e => by have := HB3.out.size; simp only [World.size_alloc] at e; omega))
  have HB4 := Lib.hid (HB3.out.trans ((hA3.mono HB3.out.size).trans (hk4.below HN2.out (by have := HB3.out.size; simp only [World.size_alloc]; omega))))
  clear hd4 hs4 hn4 hk4 hA3 HD3 HN2 HB3
  go_wp2_with fail
  refine (copy_calls D4 B e3 w4 HD4.out).mono ?_
  rintro e w5 ⟨C, E5, rfl, hc5, hE5, hB5⟩
  have hap5 : Apart w5 D4 E5 := fun k a b => (hE5 k b).elim (fun e => by have := HD4.out.lt k a; omega) (fun e => by obtain ⟨cells, hc⟩ := e.2; exact ⟨cells, (hB5.block k (lt_of hc)).trans hc⟩)
  have HC5 := Lib.hid hc5
  have HD5 := Lib.hid (HD4.out.grow hB5)
  have HAP5 := Lib.hid hap5
  have HE5 := Lib.hid (fun k (hk : E5 k) => show w.heap.size ≤ k from (hE5 k hk).elim (fun e => Nat.le_trans HB4.out.size e) (fun e => HN4.out k e.1))
  have HB5 := Lib.hid (HB4.out.trans (hB5.mono HB4.out.size))
  clear hc5 hE5 hB5 hap5 HD4 HB4
  go_wp2_with fail
  have hA5 : Below w5.heap.size w5 (w5.alloc (.cells #[.int .i64 1] 3)) := (Below.refl _ _).alloc (Nat.le_refl _) _
  refine (crash_calls D4 B e3 HK.out.2.2.2.1 (some ⟨w5.heap.size, 0, none⟩) 1 [1] (by decide) (by decide) 7 (by decide) _ (HD5.out.grow hA5) (lit64_keep w5 D4 HD5.out.lt [1] (by decide))).mono ?_
  rintro e w6 ⟨rfl, D6, hd6, hs6, hn6, hk6⟩
  rw [liv_4] at hd6
  have hap5a : Apart (w5.alloc (.cells #[.int .i64 1] 3)) D4 E5 := fun k a b => by obtain ⟨cells, hc⟩ := HAP5.out k a b; exact ⟨cells, (hA5.block k (lt_of hc)).trans hc⟩
  have hc6 := (HC5.out.grow hA5).other hap5a hk6
  have hap6 : Apart w6 D6 E5 := hap5a.keep hk6 hn6 (fun _ h => h) (fun k hk => by have := HC5.out.lt k hk; simp only [World.size_alloc]; omega)
  have hl6 := HD5.out.lt
  have HD6 := Lib.hid hd6
  have HC6 := Lib.hid hc6
  have HAP6 := Lib.hid hap6
  have HN6 := Lib.hid (fun k (hk : D6 k) => show w.heap.size ≤ k from (hn6 k hk).elim (HN4.out k) (fun e => by have := HB5.out.size; simp only [World.size_alloc] at e; omega))
  have HB6 := Lib.hid (HB5.out.trans ((hA5.mono HB5.out.size).trans (hk6.below HN4.out (by have := HB5.out.size; simp only [World.size_alloc]; omega))))
  clear hd6 hs6 hn6 hk6 hA5 hap5a hc6 hap6 hl6 HD5 HC5 HAP5 HN4 HB5
  go_wp2_with fail
  refine (crash_calls E5 C e3 HK.out.2.2.2.1 none 0 [] (by decide) (by decide) 7 (by decide) w6 HC6.out (fun W _ => none_C64 W)).mono ?_
  rintro e w7 ⟨rfl, E7, hc7, hs7, hn7, hk7⟩
  rw [liv_5] at hc7
  have hd7 := HD6.out.other HAP6.out.symm hk7
  have HD7 := Lib.hid hd7
  have HC7 := Lib.hid hc7
  have HE7 := Lib.hid (fun k (hk : E7 k) => show w.heap.size ≤ k from (hn7 k hk).elim (HE5.out k) (fun e => Nat.le_trans HB6.out.size e))
  have HB7 := Lib.hid (HB6.out.trans (hk7.below HE5.out HB6.out.size))
  clear hd7 hc7 hs7 hn7 hk7 HD6 HC6 HAP6 HE5 HB6
  go_wp2_with fail
  have hr8 := read_calls D6 B e4 3 (by decide) (by decide) w7 HD7.out
  rw [liv_8] at hr8
  refine hr8.mono ?_
  rintro e w8 ⟨v8, rfl, hR8, hB8⟩
  have HR8 := Lib.hid hR8
  have HC8 := Lib.hid (HC7.out.grow hB8)
  have HB8 := Lib.hid (HB7.out.trans (hB8.mono HB7.out.size))
  clear hr8 hR8 hB8 HD7 HC7 HB7
  go_wp2_with fail
  have hr9 := read_calls E7 C e2 3 (by decide) (by decide) w8 HC8.out
  rw [liv_9] at hr9
  refine hr9.mono ?_
  rintro e w9 ⟨v9, rfl, hR9, hB9⟩
  have HR9 := Lib.hid hR9
  have HX9 := Lib.hid (Kd.R_below HR8.out hB9)
  have HC9 := Lib.hid (HC8.out.grow hB9)
  have HB9 := Lib.hid (HB8.out.trans (hB9.mono HB8.out.size))
  clear hr9 hR9 hB9 HC8 HB8 HR8
  go_wp2_with fail
  refine (arm_calls E7 C e2 0 w9 HC9.out).mono ?_
  rintro e w10 ⟨rfl, hc10, hk10⟩
  rw [liv_6] at hc10
  have HC10 := Lib.hid hc10
  have HX10 := Lib.hid (row_kd HX9.out hk10)
  have HY10 := Lib.hid (row_kd HR9.out hk10)
  have HB10 := Lib.hid (HB9.out.trans (hk10.below HE7.out HB9.out.size))
  clear hc10 hk10 HC9 HX9 HR9 HB9
  go_wp2_with fail
  have ha11 := append_calls E7 C e6 1 (by decide) (by decide) (by decide) (by decide) none 0 [] (by decide) w10 HC10.out (none_C _)
  rw [liv_7] at ha11
  refine ha11.mono ?_
  rintro e w11 ⟨rfl, E11, hc11, hs11, hn11, hk11⟩
  clear ha11
  have HC11 := Lib.hid hc11
  have HX11 := Lib.hid (row_kd HX10.out hk11)
  have HY11 := Lib.hid (row_kd HY10.out hk11)
  have HB11 := Lib.hid (HB10.out.trans (hk11.below HE7.out HB10.out.size))
  clear hc11 hs11 hn11 hk11 HC10 HX10 HY10 HB10
  go_wp2_with fail
  have hr12 := read_calls E11 C e7 3 (by decide) (by decide) w11 HC11.out
  rw [liv_10] at hr12
  refine hr12.mono ?_
  rintro e w12 ⟨v12, rfl, hR12, hB12⟩
  obtain ⟨Ax, cx, rfl, hcx, hCx⟩ := Kd.R_reads (Kd.R_below HX11.out hB12)
  obtain ⟨Ay, cy, rfl, hcy, hCy⟩ := Kd.R_reads (Kd.R_below HY11.out hB12)
  have HCX := Lib.hid hCx
  have HCY := Lib.hid hCy
  have HB12 := Lib.hid (HB11.out.trans (hB12.mono HB11.out.size))
  clear hr12 hR12 hB12 HC11 HX11 HY11 HB11 hCx hCy
  have h13 := sameBytes_calls Ax (some ⟨w12.heap.size, 0, none⟩) cx 3 [1, 2, 254] [1, 2, 254] (by decide) (w12.alloc (.cells #[.int .u8 1, .int .u8 2, .int .u8 254] 5)) (Kd.C_alloc HCX.out _) (lit8_C w12 [1, 2, 254] (by decide))
  rw [decide_eq_true rfl] at h13
  have H13 := Lib.hid h13
  clear h13
  go_wp2_with fail
  refine H13.out.mono ?_
  rintro e w13 ⟨rfl, n13, rfl⟩
  have hB13 : Below w12.heap.size w12 ((w12.alloc (.cells #[.int .u8 1, .int .u8 2, .int .u8 254] 5)).drewN n13) := pw_below_drewN ((Below.refl _ _).alloc (Nat.le_refl _) _) n13
  generalize (w12.alloc (.cells #[.int .u8 1, .int .u8 2, .int .u8 254] 5)).drewN n13 = w13 at hB13 ⊢
  have HB13 := Lib.hid hB13
  have h14 := sameBytes_calls Ay (some ⟨w13.heap.size, 0, none⟩) cy 2 [1, 2] [1, 2] (by decide) (w13.alloc (.cells #[.int .u8 1, .int .u8 2] 5)) (Kd.C_alloc (Kd.C_below HCY.out hB13) _) (lit8_C w13 [1, 2] (by decide))
  rw [decide_eq_true rfl] at h14
  have H14 := Lib.hid h14
  clear h14 hB13
  go_wp2_with fail
  refine H14.out.mono ?_
  rintro e w14 ⟨rfl, n14, rfl⟩
  have hB14 : Below w13.heap.size w13 ((w13.alloc (.cells #[.int .u8 1, .int .u8 2] 5)).drewN n14) := pw_below_drewN ((Below.refl _ _).alloc (Nat.le_refl _) _) n14
  have hfin : Below w.heap.size w ((w13.alloc (.cells #[.int .u8 1, .int .u8 2] 5)).drewN n14) := by
    have h1 := HB12.out.trans (HB13.out.mono HB12.out.size)
    exact h1.trans (hB14.mono h1.size)
  go_wp2
  go_ret
  exact ⟨rfl, hfin⟩

end Go.Proofs.Ytjnbbmiccbjjbaa.Disk
