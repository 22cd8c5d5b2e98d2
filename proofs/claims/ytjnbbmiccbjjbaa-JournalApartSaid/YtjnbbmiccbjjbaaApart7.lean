/- refuterlaw07.JournalApart: it returns true. -/
import Derived.Test.YtjnbbmiccbjjbaaApP
namespace Go.Proofs.Ytjnbbmiccbjjbaa.Jnl
open Go.RowKit Go.Proofs Go.Proofs.Ytjnbbmiccbjjbaa.Ma Go.Proofs.Ytjnbbmiccbjjbaa.Wire Go.Proofs.Ytjnbbmiccbjjbaa.Rdr Go.Proofs.Ytjnbbmiccbjjbaa.MapI Go.Proofs.Ytjnbbmiccbjjbaa.Scan Go.Proofs.Ytjnbbmiccbjjbaa.Few Go.Proofs.Ytjnbbmiccbjjbaa.Ref07 Go.Proofs.Ytjnbbmiccbjjbaa.Lives7 Go.Proofs.Ytjnbbmiccbjjbaa.Fr7 Go.Proofs.Ytjnbbmiccbjjbaa.Disk Go.Proofs.YtjnbbmiccbjjbaaW.PrintWords Go.Proofs.YtjnbbmiccbjjbaaW.PrintLast

def gAp (xs ys : List (List Int)) (k : Int) : List Int := if k = 3 then framesL 0 xs else if k = 4 then framesL 0 ys else []
theorem gAp3 (xs ys : List (List Int)) : gAp xs ys 3 = framesL 0 xs := if_pos rfl
theorem gAp4 (xs ys : List (List Int)) : gAp xs ys 4 = framesL 0 ys := by unfold gAp; rw [if_neg (by decide), if_pos rfl]
theorem ap_frames {X : List (List Int)} (hX : X.length ≤ 6) (hs : Small X) (k : Nat) : (framesL 0 (X.take k)).length ≤ 1440 := by
  obtain ⟨-, h⟩ := framesL_len (X.take k) 0 (fun x hx => by have := (hs x (List.mem_of_mem_take hx)).1; omega) (by rw [List.length_take]; omega)
  rw [List.length_take] at h
  omega
theorem ap_lap3 {X Y : List (List Int)} (hX : X.length ≤ 6) (hY : Y.length ≤ 6) (hsX : Small X) (hsY : Small Y) {d : Dsk} (hok : DOk d) {i j : Nat} (h : TwoF (gAp (X.take i) (Y.take j)) d) (hi : i < X.length) :
    ∃ d', lapD d 3 (i : Int) false X[i] = (0, d', (i : Int) + 1, false) ∧ TwoF (gAp (X.take (i + 1)) (Y.take j)) d' := by
  have hil : (X.take i).length = i := by rw [List.length_take]; omega
  have hy := (hsX X[i] (List.getElem_mem hi)).1
  have hfl := frameL_length (i : Int) (by omega) X[i] (by omega)
  have f1 := ap_frames hX hsX i
  have f2 := ap_frames hY hsY j
  obtain ⟨d', h1, h2⟩ := h.lap hok (.inl rfl) (gAp3 _ _) (y := X[i]) (by omega) (by rw [gAp3, gAp4, hil]; omega)
  rw [hil] at h1
  refine ⟨d', h1, h2.congr (fun k => ?_)⟩
  rw [List.take_succ_eq_append_getElem hi]
  unfold gAp
  by_cases hk : k = 3
  · rw [if_pos hk, if_pos hk]
  · rw [if_neg hk, if_neg hk, if_neg hk]
theorem ap_lap4 {X Y : List (List Int)} (hX : X.length ≤ 6) (hY : Y.length ≤ 6) (hsX : Small X) (hsY : Small Y) {d : Dsk} (hok : DOk d) {i j : Nat} (h : TwoF (gAp (X.take i) (Y.take j)) d) (hj : j < Y.length) :
    ∃ d', lapD d 4 (j : Int) false Y[j] = (0, d', (j : Int) + 1, false) ∧ TwoF (gAp (X.take i) (Y.take (j + 1))) d' := by
  have hil : (Y.take j).length = j := by rw [List.length_take]; omega
  have hy := (hsY Y[j] (List.getElem_mem hj)).1
  have hfl := frameL_length (j : Int) (by omega) Y[j] (by omega)
  have f1 := ap_frames hX hsX i
  have f2 := ap_frames hY hsY j
  obtain ⟨d', h1, h2⟩ := h.lap hok (.inr rfl) (gAp4 _ _) (y := Y[j]) (by omega) (by rw [gAp3, gAp4, hil]; omega)
  rw [hil] at h1
  refine ⟨d', h1, h2.congr (fun k => ?_)⟩
  rw [List.take_succ_eq_append_getElem hj]
  unfold gAp
  by_cases hk : k = 4
  · rw [if_pos hk, hk]
    rfl
  · rw [if_neg hk]
    by_cases h3 : k = 3
    · rw [if_pos h3, if_pos h3]
    · rw [if_neg h3, if_neg h3, if_neg hk, if_neg hk]

/-- The state before round i. -/
def ApSt (n : Nat) (w w3 : World) (S : Nat → Prop) (B La Lb : Nat) (X Y : List (List Int)) (i j : Nat) (W : World) : Prop := ∃ d, TwoF (gAp (X.take i) (Y.take j)) d ∧ JS n w w3 S B d [(La, 3, (i : Int), false), (Lb, 4, (j : Int), false)] W

section
variable {n B La Lb : Nat} {w w3 W : World} {S : Nat → Prop} {X Y : List (List Int)}
theorem ap_step3 (hX : X.length ≤ 6) (hY : Y.length ≤ 6) (hsX : Small X) (hsY : Small Y) {i j : Nat} (h : ApSt n w w3 S B La Lb X Y i j W) (hi : i < X.length) (A : Option Addr) (c : Nat) (hC : Kd.C (Kd.int .u8) W A X[i].length X[i]) :
    Calls Try.prog 38 #[.pointer (some ⟨La, 0, none⟩), .slice A X[i].length c] W fun e W' => e = .returned (.int .i64 0) ∧ ApSt n w w3 S B La Lb X Y (i + 1) j W' := by
  obtain ⟨d, h1, h2⟩ := h
  obtain ⟨d', h3, h4⟩ := ap_lap3 hX hY hsX hsY h2.ok h1 hi
  have hl := lap_j h2 (by decide) (by omega) A c X[i].length X[i] rfl (hsX X[i] (List.getElem_mem hi)).2 hC
  rw [h3] at hl
  exact hl.mono fun e W' ⟨e1, e2⟩ => ⟨e1, d', h4, e2⟩
theorem ap_step4 (hX : X.length ≤ 6) (hY : Y.length ≤ 6) (hsX : Small X) (hsY : Small Y) {i j : Nat} (h : ApSt n w w3 S B La Lb X Y i j W) (hj : j < Y.length) (A : Option Addr) (c : Nat) (hC : Kd.C (Kd.int .u8) W A Y[j].length Y[j]) :
    Calls Try.prog 38 #[.pointer (some ⟨Lb, 0, none⟩), .slice A Y[j].length c] W fun e W' => e = .returned (.int .i64 0) ∧ ApSt n w w3 S B La Lb X Y i (j + 1) W' := by
  obtain ⟨d, h1, h2⟩ := h
  obtain ⟨d', h3, h4⟩ := ap_lap4 hX hY hsX hsY h2.ok h1 hj
  have hl := lap_j h2.swap (by decide) (by omega) A c Y[j].length Y[j] rfl (hsY Y[j] (List.getElem_mem hj)).2 hC
  rw [h3] at hl
  exact hl.mono fun e W' ⟨e1, e2⟩ => ⟨e1, d', h4, e2.swap⟩
theorem ApSt.keep {i j : Nat} (h : ApSt n w w3 S B La Lb X Y i j W) : ∀ k, S k → W.heap[k]? = w3.heap[k]? := by obtain ⟨d, _, h⟩ := h; exact h.keep
/-- The state of the second loop. -/
def Ap2 (n : Nat) (w w3 : World) (S : Nat → Prop) (B : Nat) (X Y : List (List Int)) (W : World) : Prop := ∃ d, TwoF (gAp X Y) d ∧ JS n w w3 S B d [] W
theorem ap_crash {i j : Nat} (h : ApSt n w w3 S B La Lb X Y i j W) (hi : X.take i = X) (hj : Y.take j = Y) :
    Calls Try.prog 18 #[.pointer (some ⟨B, 0, none⟩), .slice none 0 0, .int .i64 (-1)] W fun e W' => e = .returned (.tuple #[]) ∧ Ap2 n w w3 S B X Y W' := by
  obtain ⟨d, h1, h2⟩ := h
  rw [hi, hj] at h1
  exact (crash0_j h2 (-1) (by decide)).mono fun e W' ⟨e1, e2⟩ => ⟨e1, _, h1.crash h2.ok, e2.drop.drop⟩
theorem ap_open {f : Int} {xs : List (List Int)} (hf : 0 ≤ f ∧ f < 64) (h : Ap2 n w w3 S B X Y W) (hg : gAp X Y f = framesL 0 xs) (hx : xs.length ≤ 6) (hs : Small xs) :
    Calls Try.prog 36 #[.pointer (some ⟨B, 0, none⟩), .int .i64 f] W fun e W' => ∃ L A c, e = .returned (.tuple #[.pointer (some ⟨L, 0, none⟩), .slice A xs.length c, .int .i64 0]) ∧
      Ap2 n w w3 S B X Y W' ∧ (∀ k, S k → W'.heap[k]? = w3.heap[k]?) ∧ ∃ S2, Ap2 n w W' S2 B X Y W' ∧ (∀ k, S k → S2 k) ∧ ∀ W2, (∀ k, S2 k → W2.heap[k]? = W'.heap[k]?) → KL.C W2 A xs.length xs := by
  obtain ⟨d, h1, h2⟩ := h
  obtain ⟨o1, o2, o3⟩ := h1.opens hf hg (fun x hx => by have := (hs x hx).1; omega) (by omega)
  have ho := open_j h2 f (by omega) o1
  rw [o2] at ho
  refine ho.mono fun e W' ⟨L, v, e1, e2, e3, e4⟩ => ?_
  obtain ⟨A, c, rfl, _, _⟩ := Kd.R_reads e4
  exact ⟨L, A, c, e1, ⟨_, o3, (e2.back (fun k hk => .inl hk) e3).drop⟩, e3, _, ⟨_, o3, e2.drop⟩, fun k hk => .inl hk, fun W2 hW2 => list_keep e4 W2 (fun k hk => hW2 k (.inr hk))⟩
theorem Ap2.less {wY : World} {S2 : Nat → Prop} (h : Ap2 n w wY S2 B X Y W) (hS : ∀ k, S k → S2 k) (hk : ∀ k, S k → wY.heap[k]? = w3.heap[k]?) : Ap2 n w w3 S B X Y W := by
  obtain ⟨d, h1, h2⟩ := h
  exact ⟨d, h1, h2.back hS hk⟩
theorem Ap2.grow {W' : World} (h : Ap2 n w w3 S B X Y W) (hb : Below W.heap.size W W') : Ap2 n w w3 S B X Y W' := by
  obtain ⟨d, h1, h2⟩ := h
  exact ⟨d, h1, h2.grow hb⟩
theorem Ap2.keep (h : Ap2 n w w3 S B X Y W) : ∀ k, S k → W.heap[k]? = w3.heap[k]? := by obtain ⟨d, _, h⟩ := h; exact h.keep
theorem Ap2.low (h : Ap2 n w w3 S B X Y W) : Below n w W ∧ n ≤ W.heap.size := by obtain ⟨d, _, h⟩ := h; exact ⟨h.low, h.size⟩
end

set_option maxRecDepth 100000 in
set_option maxHeartbeats 8000000 in
theorem apart_law (w : World) (A0 : Option Addr) (c0 : Nat) (l : List Int) (h0 : Kd.C (Kd.int .i64) w A0 l.length l) (hl : ∀ x ∈ l, -9223372036854775808 ≤ x ∧ x ≤ 9223372036854775807) (_ : l.length ≤ 140737488351232) (_ : l.length ≤ c0)
    (A1 : Option Addr) (c1 : Nat) (m : List Int) (h1 : Kd.C (Kd.int .i64) w A1 m.length m) (hm : ∀ x ∈ m, -9223372036854775808 ≤ x ∧ x ≤ 9223372036854775807) (_ : m.length ≤ 140737488351232) (_ : m.length ≤ c1)
    (A2 : Option Addr) (c2 : Nat) (b : List Int) (h2 : Kd.C (Kd.int .u8) w A2 b.length b) (hb : ∀ x ∈ b, 0 ≤ x ∧ x ≤ 255) (_ : b.length ≤ 140737488351232) (hc2 : b.length ≤ c2) :
    Calls Try.prog 10 #[.slice A0 l.length c0, .slice A1 m.length c1, .slice A2 b.length c2] w fun e w' => e = .returned (.bool true) ∧ Below w.heap.size w w' := by
  have HREC := Lib.hid (fun (W : World) (h : Below w.heap.size w W) => records_calls A0 c0 l W (Kd.C_below h0 h) hl)
  have HREM := Lib.hid (fun (W : World) (h : Below w.heap.size w W) => records_calls A1 c1 m W (Kd.C_below h1 h) hm)
  have HFEW := Lib.hid (fun W (h : Below w.heap.size w W) => few_calls A2 c2 b 3 (by omega) hc2 W (Kd.C_below h2 h))
  have hbl : (b.take 3).length ≤ 3 := List.length_take_le _ _
  have hbb : ∀ x ∈ b.take 3, 0 ≤ x ∧ x ≤ 255 := fun x hx => hb x (List.mem_of_mem_take hx)
  generalize b.take 3 = y at HFEW hbl hbb
  have HBB := Lib.hid hbb
  obtain ⟨s1, s2, s3, s4, s5⟩ := apart_start hbl
  have HS1 := Lib.hid s1
  have HS2 := Lib.hid s2
  have HS3 := Lib.hid s3
  have HS4 := Lib.hid s4
  have HS5 := Lib.hid s5
  clear h0 hl h1 hm h2 hb hbb s1 s2 s3 s4 s5
  go_enter Try.func10, Try.ntmps10
  go_wp2_with fail
  refine (fresh_j w.heap.size w w (Below.refl _ _) (Nat.le_refl _) 5000 (by decide) (by decide)).mono ?_
  rintro e w1 ⟨B, rfl, hj1⟩
  have HJ1 := Lib.hid hj1
  clear hj1
  go_wp2_with fail
  refine (HFEW.out w1 HJ1.out.low).mono ?_
  rintro e w1b ⟨v1, rfl, hR1, hb1⟩
  obtain ⟨A1b, c1b, rfl, -, hC1⟩ := Kd.R_reads hR1
  have hap := app_j (HJ1.out.grow hb1) 4 (by decide) A1b c1b y.length y rfl HBB.out (by omega) hC1
  rw [HS1.out] at hap
  have HAP := Lib.hid hap
  clear hap hR1 hC1 hb1 HJ1 HFEW HS1
  go_wp2_with fail
  refine HAP.out.mono ?_
  rintro e w2 ⟨rfl, hj2⟩
  have hop := open_j hj2 3 (by decide) (by rw [HS3.out])
  rw [HS2.out, HS3.out, scan_few (r := []) (by simp)] at hop
  have HOP := Lib.hid hop
  clear hop hj2 HAP HS2 HS3
  go_wp2_with fail
  refine HOP.out.mono ?_
  rintro e w3 ⟨La, va, rfl, hj3, -, hRa⟩
  obtain ⟨Aa, ca, rfl, -, -⟩ := Kd.R_reads hRa
  have hop := open_j hj3 4 (by decide) (by rw [HS5.out])
  rw [HS4.out, HS5.out] at hop
  have HOP2 := Lib.hid hop
  clear hop hj3 hRa HOP HS4 HS5
  go_wp2_with fail
  refine HOP2.out.mono ?_
  rintro e w4 ⟨Lb, vb, rfl, hj4, -, hRb⟩
  obtain ⟨Ab, cb, rfl, -, -⟩ := Kd.R_reads hRb
  have HJ4 := Lib.hid hj4.swap
  clear hj4 hRb HOP2
  go_wp2_with fail
  refine (HREC.out w4 HJ4.out.low).mono ?_
  rintro e w5 ⟨v5, X, rfl, hRX, hxl, hxs, hb5⟩
  obtain ⟨Ax, cx, rfl, hcx, -⟩ := Kd.R_reads hRX
  have hX6 : X.length ≤ 6 := by omega
  have HSX := Lib.hid hxs
  have HJ5 := Lib.hid (HJ4.out.grow hb5)
  have HRX := Lib.hid hRX
  have HB5 := Lib.hid hb5
  have hb5s := hb5.size
  clear hRX hxl hxs hb5 HREC
  go_wp2_with fail
  refine (HREM.out w5 HJ5.out.low).mono ?_
  rintro e w6 ⟨v6, Y, rfl, hRY, hyl, hys, hb6⟩
  obtain ⟨Ay, cy, rfl, hcy, -⟩ := Kd.R_reads hRY
  have hY6 : Y.length ≤ 6 := by omega
  have HSY := Lib.hid hys
  have hj6 := (HJ4.out.news (HB5.out.trans (hb6.mono HB5.out.size))).1
  have hRX6 := Kd.R_below HRX.out hb6
  have hb6s := hb6.size
  have HXC := Lib.hid (fun (W : World) h => list_keep (Kd.R_mono (ok' := fun k => w4.heap.size ≤ k ∧ k < w6.heap.size) (Kd.R_bound hRX6) (fun k hk => ⟨hk.2.1, hk.2.2.1⟩)) W h)
  have HYC := Lib.hid (fun (W : World) h => list_keep (Kd.R_mono (ok' := fun k => w4.heap.size ≤ k ∧ k < w6.heap.size) (Kd.R_bound hRY) (fun k hk => ⟨Nat.le_trans hb5s hk.2.1, hk.2.2.1⟩)) W h)
  have HJ6 := Lib.hid hj6
  clear hRY hyl hys hb6 HREM hRX6 HRX hj6 HJ5 HJ4 HB5
  generalize hS : (fun k => (((False ∨ w2.heap.size ≤ k ∧ k ≠ La ∧ k < w3.heap.size) ∨ w3.heap.size ≤ k ∧ k ≠ Lb ∧ k < w4.heap.size) ∨ w4.heap.size ≤ k ∧ k < w6.heap.size)) = S at HJ6
  have hS2 : ∀ k, w4.heap.size ≤ k ∧ k < w6.heap.size → S k := fun k hk => by rw [← hS]; exact .inr hk
  have HS := Lib.hid hS2
  clear hS hS2
  have HX := Lib.hid (fun (W : World) (h : ∀ k, S k → W.heap[k]? = w6.heap[k]?) => HXC.out W (fun k hk => h k (HS.out k hk)))
  have HY := Lib.hid (fun (W : World) (h : ∀ k, S k → W.heap[k]? = w6.heap[k]?) => HYC.out W (fun k hk => h k (HS.out k hk)))
  have HST : Hid (ApSt w.heap.size w w6 S B La Lb X Y 0 0 w6) := Lib.hid ⟨_, two_new.congr (fun k => by unfold gAp; simp [framesL_nil]), HJ6.out⟩
  clear HXC HYC HS HJ6 hb5s hb6s
  go_wp2
  go_loopw [16] (fun i wr => ∃ k a b : Nat, i = .int .i64 k ∧ k ≤ 6 ∧ Hid (a = min k X.length) ∧ Hid (b = min k Y.length) ∧ Hid (ApSt w.heap.size w w6 S B La Lb X Y a b wr)) (fun i _ => 6 - (intOf i).toNat)
  case atStart => exact ⟨0, 0, 0, rfl, by omega, Lib.hid (by omega), Lib.hid (by omega), HST⟩
  case round =>
    obtain ⟨k, a, b, rfl, hk, ha, hb, hst⟩ := hrel
    have hk0 : (0 : Int) ≤ (k : Int) := by omega
    by_cases hk6 : (k : Int) < 6
    · by_cases hx : (k : Int) < (X.length : Int)
      · obtain rfl : a = k := by have := ha.out; omega
        obtain ⟨ad, Ae, ce, e1, hcell, -, hCe⟩ := kl_at (HX.out wr hst.out.keep) a (by omega) (by omega)
        subst e1
        have HL := Lib.hid (ap_step3 hX6 hY6 HSX.out HSY.out hst.out (by omega : a < X.length) Ae ce hCe)
        generalize X[a] = xa at hcell hCe HL
        clear hst hCe
        by_cases hy : (a : Int) < (Y.length : Int)
        · obtain rfl : b = a := by have := hb.out; omega
          go_wp2_with fail
          refine HL.out.mono ?_
          rintro e w7 ⟨rfl, hst7⟩
          obtain ⟨ad2, Af, cf, e1, hcell2, -, hCf⟩ := kl_at (HY.out w7 hst7.keep) b (by omega) (by omega)
          subst e1
          have HL2 := Lib.hid (ap_step4 hX6 hY6 HSX.out HSY.out hst7 (by omega : b < Y.length) Af cf hCf)
          generalize Y[b] = yb at hcell2 hCf HL2
          clear hst7 hCf hcell
          go_wp2_with fail
          refine HL2.out.mono ?_
          rintro e w8 ⟨rfl, hst8⟩
          have HST8 := Lib.hid hst8
          clear hst8
          go_wp2
          go_roundw
          case rel => exact ⟨b + 1, b + 1, b + 1, by go_num, by omega, Lib.hid (by omega), Lib.hid (by omega), HST8⟩
          case measure => simp [intOf]; omega
        · go_wp2_with fail
          refine HL.out.mono ?_
          rintro e w7 ⟨rfl, hst7⟩
          have HST8 := Lib.hid hst7
          clear hst7
          go_wp2
          go_roundw
          case rel => exact ⟨a + 1, a + 1, b, by go_num, by omega, Lib.hid (by omega), Lib.hid (by have := hb.out; omega), HST8⟩
          case measure => simp [intOf]; omega
      · by_cases hy : (k : Int) < (Y.length : Int)
        · obtain rfl : b = k := by have := hb.out; omega
          obtain ⟨ad2, Af, cf, e1, hcell2, -, hCf⟩ := kl_at (HY.out wr hst.out.keep) b (by omega) (by omega)
          subst e1
          have HL2 := Lib.hid (ap_step4 hX6 hY6 HSX.out HSY.out hst.out (by omega : b < Y.length) Af cf hCf)
          generalize Y[b] = yb at hcell2 hCf HL2
          clear hst hCf
          go_wp2_with fail
          refine HL2.out.mono ?_
          rintro e w8 ⟨rfl, hst8⟩
          have HST8 := Lib.hid hst8
          clear hst8
          go_wp2
          go_roundw
          case rel => exact ⟨b + 1, a, b + 1, by go_num, by omega, Lib.hid (by have := ha.out; omega), Lib.hid (by omega), HST8⟩
          case measure => simp [intOf]; omega
        · go_wp2
          go_roundw
          case rel => exact ⟨k + 1, a, b, by go_num, by omega, Lib.hid (by have := ha.out; omega), Lib.hid (by have := hb.out; omega), hst⟩
          case measure => simp [intOf]; omega
    · have hk7 : k = 6 := by omega
      have HCR := Lib.hid (ap_crash hst.out (List.take_of_length_le (by have := ha.out; omega)) (List.take_of_length_le (by have := hb.out; omega)))
      clear hk7 hst ha hb
      go_wp2_with fail
      refine HCR.out.mono ?_
      rintro e w9 ⟨rfl, h9⟩
      have H9 := Lib.hid h9
      clear h9 HCR
      go_wp2
      go_loopw [17] (fun i wr => ∃ k : Nat, i = .int .i64 k ∧ k ≤ 2 ∧ Hid (Ap2 w.heap.size w w6 S B X Y wr)) (fun i _ => 2 - (intOf i).toNat)
      case atStart => exact ⟨0, rfl, by omega, H9⟩
      case round =>
        obtain ⟨q, rfl, hq, hq2⟩ := hrel
        by_cases hq6 : (q : Int) < 2
        · have HO := Lib.hid (ap_open (f := 3) (by decide) hq2.out (gAp3 X Y) hX6 HSX.out)
          go_wp2_with fail
          refine HO.out.mono ?_
          rintro e w10 ⟨L1, A1p, c1p, rfl, -, hk10, S2, h10, hsub, hrow⟩
          have HO2 := Lib.hid (ap_open (f := 4) (by decide) h10 (gAp4 X Y) hY6 HSY.out)
          have HROW := Lib.hid hrow
          have HSUB := Lib.hid hsub
          have HK10 := Lib.hid hk10
          clear hrow hsub hk10 h10 HO hq2
          go_wp2_with fail
          refine HO2.out.mono ?_
          rintro e w11 ⟨L2, A2p, c2p, rfl, h11, hk11, S3, h11b, hsub2, hrow2⟩
          have hlow := h11.low
          have HSAME1 := Lib.hid (same_lists_n A1p Ax c1p cx X.length X.length X X rfl rfl rfl (by omega) (fun x hx => by have := (HSX.out x hx).1; omega) w11 (HROW.out w11 hk11) (HX.out w11 (fun k hk => (hk11 k (HSUB.out k hk)).trans (HK10.out k hk))))
          have HROW2 := Lib.hid hrow2
          have hback := h11.less HSUB.out HK10.out
          have HBACK := Lib.hid hback
          have HK11 := Lib.hid hk11
          have HK11b := Lib.hid (fun k hk => h11b.keep k (hsub2 k hk))
          clear h11 hk11 h11b hsub2 hrow2 hback hlow HROW HO2
          go_wp2_with fail
          refine HSAME1.out.mono ?_
          rintro e w12 ⟨rfl, hb12⟩
          have HB12 := Lib.hid hb12
          have HSAME2 := Lib.hid (same_lists_n A2p Ay c2p cy Y.length Y.length Y Y rfl rfl rfl (by omega) (fun x hx => by have := (HSY.out x hx).1; omega) w12 (Kd.C_below (HROW2.out w11 (fun _ _ => rfl)) hb12) (Kd.C_below (HY.out w11 (fun k hk => (HK11.out k (HSUB.out k hk)).trans (HK10.out k hk))) hb12))
          clear hb12
          go_wp2_with fail
          refine HSAME2.out.mono ?_
          rintro e w13 ⟨rfl, hb13⟩
          have H13 := Lib.hid ((HBACK.out.grow HB12.out).grow hb13)
          clear hb13
          go_wp2
          go_roundw
          case rel => exact ⟨q + 1, by go_num, by omega, H13⟩
          case measure => simp [intOf]; omega
        · have HLO := Lib.hid hq2.out.low
          go_wp2_with fail
          refine (lives_calls _).mono ?_
          rintro e w14 ⟨rfl, hb14⟩
          go_wp2
          go_ret
          exact ⟨rfl, HLO.out.1.trans (hb14.mono HLO.out.2)⟩

end Go.Proofs.Ytjnbbmiccbjjbaa.Jnl
