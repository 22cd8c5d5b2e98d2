/- refuterlaw06.DiskPrefix: it returns true. -/
import Derived.StillTailTactics
import Derived.Test.YtjnbbmiccbjjbaaBun
import Derived.Test.YtjnbbmiccbjjbaaPrefP
import Derived.Test.YtjnbbmiccbjjbaaRf7a
import Derived.Test.YtjnbbmiccbjjbaaCut
namespace Go.Proofs.Ytjnbbmiccbjjbaa.Disk
open Go.RowKit Go.Proofs Go.Proofs.Ytjnbbmiccbjjbaa.Ma Go.Proofs.Ytjnbbmiccbjjbaa.Wire Go.Proofs.Ytjnbbmiccbjjbaa.Rdr Go.Proofs.Ytjnbbmiccbjjbaa.MapI Go.Proofs.Ytjnbbmiccbjjbaa.Few Go.Proofs.Ytjnbbmiccbjjbaa.Ref07 Go.Proofs.Ytjnbbmiccbjjbaa.Cut Go.Proofs.YtjnbbmiccbjjbaaW.PrintWords Go.Proofs.YtjnbbmiccbjjbaaW.PrintLast

theorem row_dp {α : Type} {d : Kd α} {e : Nat} {W W' : World} {D D' : Nat → Prop} {base : Nat} {v : Value} {xs : List α} (h : Kd.R d e W base (fun k => ¬ D k) v xs) (hk : KD D W W') (hD : ∀ k, D' k → D k ∨ W.heap.size ≤ k) : Kd.R d e W' base (fun k => ¬ D' k) v xs :=
  Kd.R_mono (Kd.R_step (w1 := W') (Kd.R_bound h) (fun k ho _ => hk.block k ho.2.2.1 ho.1)) (fun k ho e => (hD k e).elim ho.1 (fun e => by have := ho.2.2.1; omega))
theorem DW.grown {n : Nat} {w0 W W' : World} {D : Nat → Prop} {B : Nat} {d : Dsk} {row : Option Nat} (h : DW n w0 D B d W) (hg : W.grownBy W' row) (hr : ∀ k, row = some k → ¬ D k) (hl : Below n w0 W') : DW n w0 D B d W' :=
  ⟨h.dk.keep (fun k hk => hg.block k (h.dk.lt k hk) (fun e => hr k e.symm hk)) hg.size, h.ok, h.own, hl, Nat.le_trans h.size hg.size⟩
theorem same_yes (A1 A2 : Option Addr) (c1 c2 m1 m2 : Nat) (a b : List Int) (h1 : a.length = m1) (h2 : b.length = m2) (he : a = b) (hl : m1 ≤ 140737488355328) (w : World) (hC1 : Kd.C (Kd.int .u8) w A1 a.length a) (hC2 : Kd.C (Kd.int .u8) w A2 b.length b) :
    Calls Try.prog 20 #[.slice A1 m1 c1, .slice A2 m2 c2] w fun e w' => e = .returned (.bool true) ∧ ∃ n, w' = w.drewN n := by
  subst h1 h2
  have h := sameBytes_calls A1 A2 c1 c2 a b hl w hC1 hC2
  rw [decide_eq_true he] at h
  exact h

theorem c_cell {k : IntKind} {W : World} {A : Option Addr} {l : List Int} (h : Kd.C (Kd.int k) W A l.length l) (j : Nat) (hj : j < l.length) : ∃ ad, A = some ad ∧ W.cell? (ad.add j) = some (.int k (l.getD j 0)) := by
  obtain ⟨_, _, h3⟩ := h
  obtain ⟨ad, e, h5⟩ := h3 (by omega)
  obtain ⟨cs, hl2, hK2, hc⟩ := h5 j (l.getD j 0) (by rw [List.getD_eq_getElem?_getD, List.getElem?_eq_getElem hj]; rfl)
  simp only [Kd.int, Kd.scalar] at hK2 hc
  subst hK2
  exact ⟨ad, e, by simpa using hc 0 _ rfl⟩

/-- The state of the first loop. -/
def PrSt (w : World) (B : Nat) (a : List Int) (f : Nat) (v : Value) (W : World) : Prop := (∀ x ∈ a, 0 ≤ x ∧ x ≤ 255) ∧ ∃ D, DW w.heap.size w D B (dsk9 1000 a f) W ∧ Kd.R (Kd.int .u8) 5 W w.heap.size (fun k => ¬ D k) v a

set_option maxRecDepth 100000 in
set_option maxHeartbeats 8000000 in
theorem prefix_law (w : World) (A0 : Option Addr) (c0 : Nat) (parts : List (List Int)) (h0 : KL.C w A0 parts.length parts) (hb : ∀ x ∈ parts, ∀ y ∈ x, 0 ≤ y ∧ y ≤ 255) (synced : Int) (hs : -9223372036854775808 ≤ synced ∧ synced ≤ 9223372036854775807) (keep : Int) (hk : -9223372036854775808 ≤ keep ∧ keep ≤ 9223372036854775807) (flip : Int) (hf : -9223372036854775808 ≤ flip ∧ flip ≤ 9223372036854775807) :
    Calls Try.prog 3 #[.slice A0 parts.length c0, .int .i64 synced, .int .i64 keep, .int .i64 flip] w fun e w' => e = .returned (.bool true) ∧ Below w.heap.size w w' := by
  have H0 := Lib.hid h0
  have HB := Lib.hid hb
  obtain ⟨i0, hi, hz0, hz1, hz2⟩ := info_parts info8
  clear h0 hb
  go_enter Try.func3, Try.ntmps3
  go_wp2_with fail
  refine (new_b w.heap.size w w (Below.refl _ _) (Nat.le_refl _) 1000 (by decide) (by decide)).mono ?_
  rintro e w1 ⟨B, D, rfl, hd1, -, -⟩
  have HD1 := Lib.hid hd1
  clear hd1
  go_wp2_with fail
  refine (around_calls synced 6 hs (by decide) w1).mono ?_
  rintro e w2 ⟨r, rfl, hr, rfl⟩
  have HST : Hid (PrSt w B [] 0 (.slice none 0 0) w1) := Lib.hid ⟨by simp, D, HD1.out, Kd.R_nil _ _ _ _ _⟩
  clear HD1
  go_wp2
  go_loopw [11, 12, 14] (fun v u i wr => ∃ (k f : Nat) (a : List Int), i = .int .i64 k ∧ u = .int .i64 f ∧ k ≤ parts.length ∧ k ≤ 6 ∧ a.length ≤ 20 * k ∧ f ≤ a.length ∧ Hid (PrSt w B a f v wr)) (fun _ _ i _ => 6 - (intOf i).toNat)
  case atStart => exact ⟨0, 0, [], rfl, rfl, Nat.zero_le _, Nat.zero_le _, Nat.le_refl _, Nat.le_refl _, HST⟩
  case round =>
    obtain ⟨k, f, a, rfl, rfl, hkp, hk6, hal, hfa, hst⟩ := hrel
    by_cases hc : k < parts.length ∧ k < 6
    · obtain ⟨hlt, hlt6⟩ := hc
      obtain ⟨hab, D', hdw, hrow⟩ := hst.out
      have HC := Lib.hid (Kd.C_below H0.out hdw.low)
      obtain ⟨ad, Ay, cy, e1, hcell, hyc, hCy⟩ := kl_at HC.out k hlt hlt
      subst e1
      have hy := HB.out parts[k] (List.getElem_mem hlt)
      generalize parts[k] = y at hcell hyc hCy hy
      have HF := Lib.hid (few_calls Ay cy y 20 (by omega) hyc wr hCy)
      have hbl : (y.take 20).length ≤ 20 := List.length_take_le _ _
      have hbb : ∀ x ∈ y.take 20, 0 ≤ x ∧ x ≤ 255 := fun x hx => hy x (List.mem_of_mem_take hx)
      generalize y.take 20 = bs at HF hbl hbb
      have HBB := Lib.hid hbb
      have HAB := Lib.hid hab
      have HW := Lib.hid hdw
      have HR := Lib.hid hrow
      clear hy hCy hbb hab hdw hrow hst
      have hka : (k : Int) < (parts.length : Int) := by omega
      have hkb : (k : Int) < 6 := by omega
      have hk0 : (0 : Int) ≤ (k : Int) := by omega
      go_wp2_with fail
      refine HF.out.mono ?_
      rintro e w3 ⟨v3, rfl, hR3, hb3⟩
      obtain ⟨A3, c3, rfl, hc3, hC3⟩ := Kd.R_reads hR3
      have HW3 := Lib.hid (HW.out.grow hb3)
      have HRA3 := Lib.hid (Kd.R_below HR.out hb3)
      have HR3 := Lib.hid hR3
      have HC3 := Lib.hid hC3
      clear hR3 hC3 hb3 HW HR HF
      go_wp2_with fail
      have hap := append_b HW3.out 9 (by decide) A3 c3 bs.length bs rfl HBB.out (by omega) HC3.out
      rw [append9 (fun e => by rw [e] at hfa; simp at hfa; omega) (by omega)] at hap
      refine hap.mono ?_
      rintro e w4 ⟨rfl, D4, hd4, -, hn4, hk4⟩
      have HW4 := Lib.hid hd4
      have HRA4 := Lib.hid (row_dp HRA3.out hk4 hn4)
      obtain ⟨A4, c4, e4, -, hC4⟩ := Kd.R_reads (row_kd HR3.out hk4)
      obtain ⟨rfl, -, rfl⟩ : A3 = A4 ∧ bs.length = bs.length ∧ c3 = c4 := by injection e4 with x1 x2 x3; exact ⟨x1, rfl, x3⟩
      have HC4 := Lib.hid hC4
      have HLT4 := Lib.hid hd4.dk.lt
      have HLOW4 := Lib.hid hd4.low
      have HSZ4 := hd4.size
      clear hap hd4 hn4 hk4 e4 hC4 HW3 HRA3 HR3 HC3
      by_cases hkr : k = r
      · obtain rfl : r = k := hkr.symm
        go_wp2_with (at_builtin; refine Kd.R_append_rows (Kd.int .u8) (Rr := (Kd.int .u8).K w4) (w0 := w) w.heap.size rfl (.tmp 52) (.tmp 53) 27 5 (.int .u8 0) 1 rfl Try.underlying27 info8 rfl (by decide) (by decide) u11 a bs A3 bs.length c3 (fun k => ¬ D4 k) (fun _ => False) rfl rfl HRA4.out HC4.out (fun _ _ h => h) (fun _ h => h.elim) (fun j hj e => by have := HLT4.out j e; omega) HLOW4.out HSZ4 (by omega) ?_; intro v5 w5 ho5 hb5 hg5 hx5)
        obtain ⟨A5, c5, rfl, hc5, hC5⟩ := Kd.R_reads ho5
        have hdw5 := HW4.out.grown hg5 (fun j hj => HRA4.out.1 j hj) hb5
        have hl2 : (a ++ bs).length = a.length + bs.length := List.length_append
        have hbb2 : ∀ x ∈ a ++ bs, 0 ≤ x ∧ x ≤ 255 := fun x hx => (List.mem_append.1 hx).elim (HAB.out x) (HBB.out x)
        generalize a ++ bs = a2 at ho5 hdw5 hl2 hbb2 hc5 hC5 ⊢
        have HL2 := Lib.hid hl2
        have HBB2 := Lib.hid hbb2
        have HW5 := Lib.hid hdw5
        have HR5 := Lib.hid ho5
        have hsy := sync_b hdw5
        rw [sync9] at hsy
        have HSY := Lib.hid hsy
        clear hl2 hbb2 hdw5 ho5 hsy hb5 hg5 hx5 hC5
        go_wp2_with fail
        refine HSY.out.mono ?_
        rintro e w6 ⟨rfl, D6, hd6, -, hn6, hk6⟩
        have HST6 : Hid (PrSt w B a2 a2.length (.slice A5 a2.length c5) w6) := Lib.hid ⟨HBB2.out, D6, hd6, row_dp HR5.out hk6 hn6⟩
        clear hd6 hn6 hk6
        go_wp2
        go_roundw
        case rel => have hl2 := HL2.out; exact ⟨r + 1, a2.length, a2, by go_num, rfl, by omega, by omega, by omega, Nat.le_refl _, HST6⟩
        case measure => simp [intOf]; omega
      · have hkr2 : ((k : Int) == (r : Int)) = false := by simp; omega
        go_wp2_with (at_builtin; refine Kd.R_append_rows (Kd.int .u8) (Rr := (Kd.int .u8).K w4) (w0 := w) w.heap.size rfl (.tmp 52) (.tmp 53) 27 5 (.int .u8 0) 1 rfl Try.underlying27 info8 rfl (by decide) (by decide) u11 a bs A3 bs.length c3 (fun k => ¬ D4 k) (fun _ => False) rfl rfl HRA4.out HC4.out (fun _ _ h => h) (fun _ h => h.elim) (fun j hj e => by have := HLT4.out j e; omega) HLOW4.out HSZ4 (by omega) ?_; intro v5 w5 ho5 hb5 hg5 hx5)
        obtain ⟨A5, c5, rfl, hc5, hC5⟩ := Kd.R_reads ho5
        have hdw5 := HW4.out.grown hg5 (fun j hj => HRA4.out.1 j hj) hb5
        have hl2 : (a ++ bs).length = a.length + bs.length := List.length_append
        have hbb2 : ∀ x ∈ a ++ bs, 0 ≤ x ∧ x ≤ 255 := fun x hx => (List.mem_append.1 hx).elim (HAB.out x) (HBB.out x)
        generalize a ++ bs = a2 at ho5 hdw5 hl2 hbb2 hc5 hC5 ⊢
        have HST6 : Hid (PrSt w B a2 f (.slice A5 a2.length c5) w5) := Lib.hid ⟨hbb2, D4, hdw5, ho5⟩
        have HL2 := Lib.hid hl2
        clear hl2 hbb2 hdw5 ho5 hb5 hg5 hx5 hC5
        go_wp2
        go_roundw
        case rel => have hl2 := HL2.out; exact ⟨k + 1, f, a2, by go_num, rfl, by omega, by omega, by omega, by omega, HST6⟩
        case measure => simp [intOf]; omega
    · obtain ⟨hab, D', hdw, hrow⟩ := hst.out
      obtain ⟨Aa, ca, rfl, hca, -⟩ := Kd.R_reads hrow
      have HW := Lib.hid hdw
      have HR := Lib.hid hrow
      have HAB := Lib.hid hab
      clear hst hdw hrow hab
      by_cases hlt : (k : Int) < (parts.length : Int)
      all_goals
        try (have hkb : ¬ (k : Int) < 6 := by omega)
        go_wp2_with fail
        have hA : Below wr.heap.size wr (wr.alloc (.cells #[.int .i64 keep] 3)) := (Below.refl _ _).alloc (Nat.le_refl _) _
        have hcr := crash_b (HW.out.grow hA) (some ⟨wr.heap.size, 0, none⟩) 1 1 [keep] rfl (by intro x hx; simp only [List.mem_singleton] at hx; subst hx; exact hk) (by decide) flip hf (lit64_keep wr D' HW.out.dk.lt [keep] (by unfold maxLen; simp))
        rw [crash9 hfa] at hcr
        refine hcr.mono ?_
        rintro e w7 ⟨rfl, D7, hd7, -, hn7, hk7⟩
        clear hcr
        have hr7 := row_dp (Kd.R_below HR.out hA) hk7 hn7
        have hnl := n9_le hfa keep
        have hni := n9_int a.length f keep
        generalize n9 a.length f keep = n at hd7 hnl hni
        obtain ⟨hnl1, hnl2⟩ := hnl
        have hxl := x9_len (f := f) hnl2 flip
        have hxc := dif_count (f := f) hnl2 HAB.out flip
        have hxf := x9_firm hnl1 hnl2 flip
        generalize x9 a f n flip = x at hd7 hxl hxc hxf
        have hxb := (readD_ok hd7.ok 9).1
        rw [read9] at hxb
        have hrd := read_b hd7 9 (by decide)
        rw [read9] at hrd
        have HRD := Lib.hid hrd
        have HR7 := Lib.hid hr7
        have HXL := Lib.hid hxl
        have HXC := Lib.hid hxc
        have HXF := Lib.hid hxf
        have HXB := Lib.hid hxb
        have HNI := Lib.hid hni
        clear hrd hr7 hxl hxc hxf hxb hn7 hk7 hA HW HR hd7 hni
        go_wp2_with fail
        refine HRD.out.mono ?_
        rintro e w8 ⟨v8, rfl, hR8, hd8, hb8⟩
        obtain ⟨A8, c8, rfl, hc8, hC8⟩ := Kd.R_reads hR8
        rw [HXL.out] at hc8 ⊢
        obtain ⟨-, -, hCa⟩ := Kd.R_reads' (Kd.R_below HR7.out hb8)
        have HC8 := Lib.hid hC8
        have HCA := Lib.hid hCa
        have HD8 := Lib.hid hd8
        clear hR8 hC8 hCa hd8 hb8 HRD HR7
        have hni := HNI.out
        have hni2 : (f : Int) + max 0 (min keep ((a.length : Int) - f)) = (n : Int) := hni.symm
        clear hni HNI
        have hn120 : n ≤ 120 := by omega
        go_wp2
        have HBK := Lib.hid (show Below w8.heap.size w8 w8 from Below.refl _ _)
        go_loopw [19, 20] (fun t i wq => ∃ j : Nat, i = .int .i64 j ∧ j ≤ n ∧ t = .int .i64 ((difN x a j : Nat) : Int) ∧ Hid (Below w8.heap.size w8 wq)) (fun _ i _ => n - (intOf i).toNat)
        case atStart => exact ⟨0, rfl, Nat.zero_le _, rfl, HBK⟩
        case round =>
          obtain ⟨j, rfl, hj, rfl, hbq⟩ := hrel
          by_cases hjn : j < n
          · obtain ⟨ax, e1, hcx⟩ := c_cell (Kd.C_below HC8.out hbq.out) j (by rw [HXL.out]; exact hjn)
            obtain ⟨aa, e2, hca2⟩ := c_cell (Kd.C_below HCA.out hbq.out) j (by omega)
            subst e1 e2
            have hp := mem_getD HXB.out j
            have hq := mem_getD HAB.out j
            have hstep : difN x a (j + 1) = difN x a j + dif9 (x.getD j 0) (a.getD j 0) := rfl
            have hd0 : difN x a j ≤ 8 * j := difN_le x a j dif9_le
            generalize x.getD j 0 = p at hcx hp hstep
            generalize a.getD j 0 = q at hca2 hq hstep
            generalize difN x a j = t0 at hstep hd0
            have HSTEP := Lib.hid hstep
            clear hstep
            have hj0 : (0 : Int) ≤ (j : Int) := by omega
            have hjx : (j : Int) < (n : Int) := by omega
            have hja : (j : Int) < (a.length : Int) := by omega
            obtain ⟨wo, rfl⟩ : ∃ wo : World, wo = wr := ⟨_, rfl⟩
            go_wp2
            go_quiet (fail)
            have hxr := xor8_range p q hp hq
            have hdf : dif9 p q = popF 8 (bits .xor .u8 p q).toNat := rfl
            generalize bits .xor .u8 p q = z at hxr hdf ⊢
            obtain ⟨z, rfl⟩ := Int.eq_ofNat_of_zero_le hxr.1
            rw [Int.toNat_natCast] at hdf
            have hz255 : z ≤ 255 := by omega
            have HT1 : Hid (t0 + popF 8 z = difN x a (j + 1)) := Lib.hid (by rw [HSTEP.out, hdf])
            have HBQ : Hid (Below w8.heap.size w8 (wo.drewN nq)) := Lib.hid (pw_below_drewN hbq.out nq)
            have hd1 : difN x a (j + 1) ≤ 8 * (j + 1) := difN_le x a (j + 1) dif9_le
            generalize hTE : difN x a (j + 1) = T1 at HT1 hd1 HSTEP
            have HTE := Lib.hid hTE
            clear hdf hxr hp hq hcx hca2 HSTEP hbq hTE
            go_wp2
            go_loop [19, 21] (fun t y => ∃ g q u : Nat, y = .int .u8 q ∧ t = .int .i64 u ∧ q ≤ 255 ∧ u ≤ T1 ∧ Hid (q < 2 ^ g) ∧ Hid (u + popF g q = T1)) (fun _ y => (intOf y).toNat)
            case atStart => exact ⟨8, z, t0, rfl, rfl, hz255, (by have := HT1.out; omega), Lib.hid (by omega), HT1⟩
            case round =>
              obtain ⟨g, q, u, rfl, rfl, hq255, hu, hqg, hpop⟩ := hrel
              by_cases hq0 : 0 < q
              · have hq00 : (0 : Int) ≤ (q : Int) := by omega
                have hq01 : (0 : Int) < (q : Int) := by omega
                have hqi : (q : Int) ≤ 255 := by omega
                go_wp2
                go_round
                case rel =>
                  obtain ⟨g2, rfl, e3, e4⟩ := popF_step hq0 hqg.out
                  have e5 := hpop.out
                  rw [e3] at e5
                  exact ⟨g2, q / 2, u + q % 2, by go_num, by go_num, by omega, by omega, Lib.hid e4, Lib.hid (by omega)⟩
                case measure => simp [intOf]; omega
              · obtain rfl : q = 0 := by omega
                have hu1 : u = T1 := by have := hpop.out; rw [popF_zero] at this; omega
                subst hu1
                go_wp2
                go_roundw
                case rel => exact ⟨j + 1, by go_num, by omega, congrArg (fun m : Nat => Value.int .i64 (m : Int)) HTE.out.symm, HBQ⟩
                case measure => simp [intOf]; omega
          · obtain rfl : j = n := by omega
            have hT := HXC.out j (Nat.le_refl _)
            have HLOW := Lib.hid (HD8.out.low.trans (hbq.out.mono HD8.out.size))
            have hszq := hbq.out.size
            have hsz8 := HD8.out.size
            by_cases hfl : 0 ≤ flip ∧ f < j
            · rw [if_pos ⟨hfl, (j9_lt hfl.2 flip).2.1⟩] at hT
              rw [hT, show ((1 : Nat) : Int) = 1 from rfl]
              obtain ⟨hfl1, hfl2⟩ := hfl
              have hfl3 : (f : Int) < (j : Int) := by omega
              have hf0 : (0 : Int) ≤ (f : Int) := by omega
              have htl : (x.take f).length = f := by rw [List.length_take, HXL.out]; omega
              have htl2 : (a.take f).length = f := by rw [List.length_take]; omega
              obtain ⟨k1, k2, -⟩ := cut_run A8 c8 x f (by rw [HXL.out]; omega) (by rw [HXL.out]; omega) .i64 wr (Kd.C_below HC8.out hbq.out)
              obtain ⟨q1, q2, -⟩ := cut_run Aa ca a f hfa hca .i64 wr (Kd.C_below HCA.out hbq.out)
              rw [HXL.out, htl] at k1
              rw [htl2] at q1
              have HSAME := Lib.hid (fun W (h : Below wr.heap.size wr W) => same_yes A8 Aa c8 ca f f (x.take f) (a.take f) htl htl2 HXF.out (by omega) W (Kd.C_below k2 h) (Kd.C_below q2 h))
              clear hT htl htl2 k2 q2 HXC HXF
              go_wp2
              go_still_tail 9, (by kernel_rfl)
              change wpList _ _ _ _ _ wr.drew
              have HS := Lib.hid (HSAME.out wr.drew (below_drew (Below.refl _ _)))
              have HDR := Lib.hid (show Below wr.heap.size wr wr.drew from below_drew (Below.refl _ _))
              generalize wr.drew = wd at HS HDR ⊢
              clear HSAME
              go_wp2_with fail
              refine HS.out.mono ?_
              rintro e wa ⟨rfl, na, rfl⟩
              go_wp2_with fail
              refine (lives6_calls _).mono ?_
              rintro e wb ⟨rfl, hbb⟩
              go_wp2
              go_ret
              exact ⟨rfl, HLOW.out.trans (((HDR.out.trans ((pw_below_drewN (Below.refl _ _) na).mono HDR.out.size)).trans (hbb.mono (by have := HDR.out.size; simp; omega))).mono (by omega))⟩
            · rw [if_neg (fun e => hfl e.1)] at hT
              rw [hT, show ((0 : Nat) : Int) = 0 from rfl]
              clear hT HXC HXF
              by_cases hf1 : (0 : Int) ≤ flip
              · have hfl2 : ¬ (f : Int) < (j : Int) := by omega
                go_wp2_with fail
                refine (lives6_calls _).mono ?_
                rintro e wb ⟨rfl, hbb⟩
                go_wp2
                go_ret
                exact ⟨rfl, HLOW.out.trans (hbb.mono (by omega))⟩
              · go_wp2_with fail
                refine (lives6_calls _).mono ?_
                rintro e wb ⟨rfl, hbb⟩
                go_wp2
                go_ret
                exact ⟨rfl, HLOW.out.trans (hbb.mono (by omega))⟩

end Go.Proofs.Ytjnbbmiccbjjbaa.Disk
