/- refuterlaw06.DiskPlan: it returns true. -/
import Derived.Test.YtjnbbmiccbjjbaaBun
import Derived.Test.YtjnbbmiccbjjbaaPlanP
import Derived.Test.YtjnbbmiccbjjbaaRf7a
namespace Go.Proofs.Ytjnbbmiccbjjbaa.Disk
open Go.RowKit Go.Proofs Go.Proofs.Ytjnbbmiccbjjbaa.Ma Go.Proofs.Ytjnbbmiccbjjbaa.Wire Go.Proofs.Ytjnbbmiccbjjbaa.Rdr Go.Proofs.Ytjnbbmiccbjjbaa.MapI Go.Proofs.Ytjnbbmiccbjjbaa.Few Go.Proofs.Ytjnbbmiccbjjbaa.Ref07 Go.Proofs.YtjnbbmiccbjjbaaW.PrintWords Go.Proofs.YtjnbbmiccbjjbaaW.PrintLast

/-- What holds at the head of each round. -/
def PlSt (w : World) (B M k s : Nat) (W : World) : Prop := ∃ D d, Dk W D B d ∧ DOk d ∧ PS M k s d ∧ (∀ j, D j → w.heap.size ≤ j) ∧ Below w.heap.size w W

set_option maxRecDepth 100000 in
set_option maxHeartbeats 8000000 in
theorem plan_law (w : World) (n : Int) (hn : -9223372036854775808 ≤ n ∧ n ≤ 9223372036854775807) (A0 : Option Addr) (c0 : Nat) (kinds : List Int) (h0 : Kd.C (Kd.int .i64) w A0 kinds.length kinds) (hl : ∀ x ∈ kinds, -9223372036854775808 ≤ x ∧ x ≤ 9223372036854775807) (_ : kinds.length ≤ 140737488351232) (_ : kinds.length ≤ c0) :
    Calls Try.prog 7 #[.int .i64 n, .slice A0 kinds.length c0] w fun e w' => e = .returned (.bool true) ∧ Below w.heap.size w w' := by
  have H0 := Lib.hid h0
  have HL := Lib.hid hl
  clear h0 hl
  go_enter Try.func7, Try.ntmps7
  go_wp2_with fail
  refine (new_calls 1000 (by decide) (by decide) w).mono ?_
  rintro e w1 ⟨B, D, rfl, hd1, hD1, hB1⟩
  have HD1 := Lib.hid hd1
  have HDD1 := Lib.hid hD1
  have HB1 := Lib.hid hB1
  clear hd1 hD1 hB1
  go_wp2_with fail
  refine (around_calls n 8 hn (by decide) w1).mono ?_
  rintro e w2 ⟨M, rfl, hM, rfl⟩
  go_wp2_with fail
  refine (arm_calls D B (newDsk 1000) (M : Int) w1 HD1.out).mono ?_
  rintro e w3 ⟨rfl, hd3, hk3⟩
  have har : armD (newDsk 1000) (M : Int) = ⟨[], 1000, false, true, (M : Int)⟩ := by
    unfold armD
    rw [if_neg (by simp [newDsk]), decide_eq_true (show (0 : Int) ≤ (M : Int) by omega)]
    rfl
  rw [har] at hd3
  have hst : PlSt w B M 0 0 w3 := ⟨D, _, hd3, ⟨(fun _ => ⟨by show (0 : Int) ≤ M; omega, by show (M : Int) ≤ _; omega⟩), ⟨by show (0 : Int) ≤ 1000; decide, by show (1000 : Int) ≤ 16777216; decide⟩, by show (0 : Int) ≤ 1000; decide, by simp, (fun p hp => by cases hp)⟩, ⟨rfl, (fun _ => ⟨rfl, rfl, by simp⟩), (fun e => by omega), .inl ⟨rfl, rfl⟩, Nat.le_refl _⟩, HDD1.out, HB1.out.trans (hk3.below HDD1.out HB1.out.size)⟩
  have HST := Lib.hid hst
  clear hd3 hk3 har hst HD1 HDD1 HB1
  go_wp2
  go_loopw [8, 9] (fun u i wr => ∃ k s : Nat, i = .int .i64 k ∧ u = .int .i64 s ∧ k ≤ kinds.length ∧ k ≤ 12 ∧ s ≤ k ∧ Hid (PlSt w B M k s wr)) (fun _ i _ => 12 - (intOf i).toNat)
  case atStart => exact ⟨0, 0, rfl, rfl, Nat.zero_le _, Nat.zero_le _, Nat.le_refl _, HST⟩
  case round =>
    obtain ⟨k, s, rfl, rfl, hk, hk12, hsk, hst⟩ := hrel
    by_cases hlt : k < kinds.length
    · by_cases hlt2 : k < 12
      · obtain ⟨D', d, hd, hok, hps, hD, hB⟩ := hst.out
        have HC := Lib.hid (Kd.C_below H0.out hB)
        have hAR := around_calls kinds[k] 3 (HL.out _ (List.getElem_mem hlt)) (by decide)
        obtain ⟨ad, e1, hcell⟩ : ∃ ad, A0 = some ad ∧ wr.cell? (ad.add k) = some (.int .i64 kinds[k]) := by
          obtain ⟨_, _, h3⟩ := HC.out
          obtain ⟨ad, e, h5⟩ := h3 (by omega)
          obtain ⟨cs, hl2, hK2, hc⟩ := h5 k kinds[k] (by rw [List.getElem?_eq_getElem hlt])
          simp only [Kd.int, Kd.scalar] at hK2 hc
          subst hK2
          exact ⟨ad, e, by simpa using hc 0 _ rfl⟩
        subst e1
        generalize kinds[k] = x at hAR hcell
        have hk0 : (0 : Int) ≤ (k : Int) := by omega
        have hka : (k : Int) < (kinds.length : Int) := by omega
        have hkb : (k : Int) < 12 := by omega
        have HAR := Lib.hid hAR
        have HDK := Lib.hid hd
        have HOK := Lib.hid hok
        have HPS := Lib.hid hps
        have HDD := Lib.hid hD
        have HBB := Lib.hid hB
        have HPA := Lib.hid (plan_append hps (by omega) hlt2)
        have HPY := Lib.hid (plan_sync hps (by omega))
        have HPT := Lib.hid (fun (h : 0 < s) => plan_trunc hps (by omega) h)
        clear hst hd hok hps hD hB hAR
        by_cases hkM : k < M
        · have h1 : ¬ ((k : Int) ≥ (M : Int)) := by omega
          have h2 : (k : Int) < (M : Int) := by omega
          have h3 : (k : Int) ≤ (M : Int) := by omega
          rw [if_pos hkM] at HPA HPY
          simp only [if_pos hkM] at HPT
          rw [if_pos (by omega : k ≤ M)] at HPA
          go_wp2_with fail
          refine (HAR.out wr).mono ?_
          rintro e w4 ⟨r, rfl, hr, rfl⟩
          by_cases hr0 : r = 0
          · have hr0' : (r : Int) = 0 := by omega
            clear hr0
            go_wp2_with fail
            have hA : Below wr.heap.size wr (wr.alloc (.cells #[.int .u8 5] 5)) := (Below.refl _ _).alloc (Nat.le_refl _) _
            have hap := append_calls D' B d 1 (by decide) HOK.out.left HOK.out.room HOK.out.used' (some ⟨wr.heap.size, 0, none⟩) 1 [5] (by decide) _ (HDK.out.grow hA) (lit8_C wr [5] (by decide))
            have hok5 := HOK.out.append 1 (bs := [5]) (by decide)
            obtain ⟨he5, hps5⟩ := HPA.out
            generalize appendD d 1 [5] = r5 at hap hok5 he5 hps5
            obtain ⟨er5, d5⟩ := r5
            simp only at hap hok5 he5 hps5
            subst he5
            refine hap.mono ?_
            rintro e w5 ⟨rfl, D5, hd5, -, hn5, hk5⟩
            have hD5 : ∀ j, D5 j → w.heap.size ≤ j := fun j hj => (hn5 j hj).elim (HDD.out j) (fun e => by have := HBB.out.size; simp only [World.size_alloc] at e; omega)
            have hB5 : Below w.heap.size w w5 := HBB.out.trans ((hA.mono HBB.out.size).trans (hk5.below HDD.out (by have := HBB.out.size; simp only [World.size_alloc]; omega)))
            clear hap hn5 hk5 hA
            have HOFF := Lib.hid (show d5.off = false from (hps5.on (by omega)).1)
            have HD5 := Lib.hid hd5
            have HK5 := Lib.hid hok5
            have HP5 := Lib.hid hps5
            have HDD5 := Lib.hid hD5
            have HBB5 := Lib.hid hB5
            have hon := on_calls D5 B d5 w5 hd5
            rw [HOFF.out] at hon
            have HON := Lib.hid hon
            have hus := used_calls D5 B d5 (by rw [hps5.at.2.2]; omega) w5 hd5
            rw [hps5.at.2.2] at hus
            have HUS := Lib.hid hus
            clear hd5 hok5 hps5 hD5 hB5 hon hus
            go_wp2_with fail
            refine HON.out.mono ?_
            rintro e w6 ⟨rfl, rfl⟩
            go_wp2_with fail
            refine HUS.out.mono ?_
            rintro e w7 ⟨rfl, hB7⟩
            have HB7 := Lib.hid hB7
            clear hB7
            go_wp2
            go_roundw
            case rel => exact ⟨k + 1, s + 1, by go_num, by go_num, by omega, by omega, by omega, Lib.hid ⟨D5, d5, HD5.out.grow HB7.out, HK5.out, HP5.out, HDD5.out, HBB5.out.trans (HB7.out.mono HBB5.out.size)⟩⟩
            case measure => simp [intOf]; omega
          · by_cases hr1 : r = 1
            · have hr0' : (r : Int) = 1 := by omega
              clear hr0 hr1
              go_wp2_with fail
              have hap := sync_calls D' B d HOK.out.left wr HDK.out
              have hok5 := HOK.out.sync
              obtain ⟨he5, hps5⟩ := HPY.out
              generalize syncD d = r5 at hap hok5 he5 hps5
              obtain ⟨er5, d5⟩ := r5
              simp only at hap hok5 he5 hps5
              subst he5
              refine hap.mono ?_
              rintro e w5 ⟨rfl, hd5, hk5⟩
              obtain ⟨D5, hDe⟩ : ∃ D5, D5 = D' := ⟨_, rfl⟩
              rw [← hDe] at hd5
              have hD5 : ∀ j, D5 j → w.heap.size ≤ j := by rw [hDe]; exact HDD.out
              have hB5 : Below w.heap.size w w5 := HBB.out.trans (hk5.below HDD.out HBB.out.size)
              clear hap hk5 hDe
              have HOFF := Lib.hid (show d5.off = false from (hps5.on (by omega)).1)
              have HD5 := Lib.hid hd5
              have HK5 := Lib.hid hok5
              have HP5 := Lib.hid hps5
              have HDD5 := Lib.hid hD5
              have HBB5 := Lib.hid hB5
              have hon := on_calls D5 B d5 w5 hd5
              rw [HOFF.out] at hon
              have HON := Lib.hid hon
              have hus := used_calls D5 B d5 (by rw [hps5.at.2.2]; omega) w5 hd5
              rw [hps5.at.2.2] at hus
              have HUS := Lib.hid hus
              clear hd5 hok5 hps5 hD5 hB5 hon hus
              go_wp2_with fail
              refine HON.out.mono ?_
              rintro e w6 ⟨rfl, rfl⟩
              go_wp2_with fail
              refine HUS.out.mono ?_
              rintro e w7 ⟨rfl, hB7⟩
              have HB7 := Lib.hid hB7
              clear hB7
              go_wp2
              go_roundw
              case rel => exact ⟨k + 1, s, by go_num, rfl, by omega, by omega, by omega, Lib.hid ⟨D5, d5, HD5.out.grow HB7.out, HK5.out, HP5.out, HDD5.out, HBB5.out.trans (HB7.out.mono HBB5.out.size)⟩⟩
              case measure => simp [intOf]; omega
            · have hr0' : (r : Int) = 2 := by omega
              clear hr0 hr1
              by_cases hs0 : 0 < s
              · have hs1 : (s : Int) > 0 := by omega
                go_wp2_with fail
                have hap := trunc_calls D' B d 1 (by decide) ((s : Int) - 1) HOK.out.left (by have := HOK.out.len 1; omega) wr HDK.out
                have hok5 := HOK.out.trunc 1 ((s : Int) - 1)
                obtain ⟨he5, hps5⟩ := (HPT.out hs0)
                generalize truncD d 1 ((s : Int) - 1) = r5 at hap hok5 he5 hps5
                obtain ⟨er5, d5⟩ := r5
                simp only at hap hok5 he5 hps5
                subst he5
                refine hap.mono ?_
                rintro e w5 ⟨rfl, hd5, hk5⟩
                obtain ⟨D5, hDe⟩ : ∃ D5, D5 = D' := ⟨_, rfl⟩
                rw [← hDe] at hd5
                have hD5 : ∀ j, D5 j → w.heap.size ≤ j := by rw [hDe]; exact HDD.out
                have hB5 : Below w.heap.size w w5 := HBB.out.trans (hk5.below HDD.out HBB.out.size)
                clear hap hk5 hDe
                have HOFF := Lib.hid (show d5.off = false from (hps5.on (by omega)).1)
                have HD5 := Lib.hid hd5
                have HK5 := Lib.hid hok5
                have HP5 := Lib.hid hps5
                have HDD5 := Lib.hid hD5
                have HBB5 := Lib.hid hB5
                have hon := on_calls D5 B d5 w5 hd5
                rw [HOFF.out] at hon
                have HON := Lib.hid hon
                have hus := used_calls D5 B d5 (by rw [hps5.at.2.2]; omega) w5 hd5
                rw [hps5.at.2.2] at hus
                have hcs : ((s - 1 : Nat) : Int) = (s : Int) - 1 := by omega
                rw [hcs] at hus
                have HCS := Lib.hid hcs
                clear hcs
                have HUS := Lib.hid hus
                clear hd5 hok5 hps5 hD5 hB5 hon hus
                go_wp2_with fail
                refine HON.out.mono ?_
                rintro e w6 ⟨rfl, rfl⟩
                go_wp2_with fail
                refine HUS.out.mono ?_
                rintro e w7 ⟨rfl, hB7⟩
                have HB7 := Lib.hid hB7
                clear hB7
                go_wp2
                go_roundw
                case rel => exact ⟨k + 1, s - 1, by go_num, by rw [HCS.out], by omega, by omega, by omega, Lib.hid ⟨D5, d5, HD5.out.grow HB7.out, HK5.out, HP5.out, HDD5.out, HBB5.out.trans (HB7.out.mono HBB5.out.size)⟩⟩
                case measure => simp [intOf]; omega
              · have hs1 : ¬ (s : Int) > 0 := by omega
                go_wp2_with fail
                have hap := sync_calls D' B d HOK.out.left wr HDK.out
                have hok5 := HOK.out.sync
                obtain ⟨he5, hps5⟩ := HPY.out
                generalize syncD d = r5 at hap hok5 he5 hps5
                obtain ⟨er5, d5⟩ := r5
                simp only at hap hok5 he5 hps5
                subst he5
                refine hap.mono ?_
                rintro e w5 ⟨rfl, hd5, hk5⟩
                obtain ⟨D5, hDe⟩ : ∃ D5, D5 = D' := ⟨_, rfl⟩
                rw [← hDe] at hd5
                have hD5 : ∀ j, D5 j → w.heap.size ≤ j := by rw [hDe]; exact HDD.out
                have hB5 : Below w.heap.size w w5 := HBB.out.trans (hk5.below HDD.out HBB.out.size)
                clear hap hk5 hDe
                have HOFF := Lib.hid (show d5.off = false from (hps5.on (by omega)).1)
                have HD5 := Lib.hid hd5
                have HK5 := Lib.hid hok5
                have HP5 := Lib.hid hps5
                have HDD5 := Lib.hid hD5
                have HBB5 := Lib.hid hB5
                have hon := on_calls D5 B d5 w5 hd5
                rw [HOFF.out] at hon
                have HON := Lib.hid hon
                have hus := used_calls D5 B d5 (by rw [hps5.at.2.2]; omega) w5 hd5
                rw [hps5.at.2.2] at hus
                have HUS := Lib.hid hus
                clear hd5 hok5 hps5 hD5 hB5 hon hus
                go_wp2_with fail
                refine HON.out.mono ?_
                rintro e w6 ⟨rfl, rfl⟩
                go_wp2_with fail
                refine HUS.out.mono ?_
                rintro e w7 ⟨rfl, hB7⟩
                have HB7 := Lib.hid hB7
                clear hB7
                go_wp2
                go_roundw
                case rel => exact ⟨k + 1, s, by go_num, rfl, by omega, by omega, by omega, Lib.hid ⟨D5, d5, HD5.out.grow HB7.out, HK5.out, HP5.out, HDD5.out, HBB5.out.trans (HB7.out.mono HBB5.out.size)⟩⟩
                case measure => simp [intOf]; omega
        · by_cases hkE : k ≤ M
          · have h1 : ((k : Int) ≥ (M : Int)) := by omega
            have h2 : ¬ (k : Int) < (M : Int) := by omega
            have h3 : (k : Int) ≤ (M : Int) := by omega
            rw [if_neg hkM] at HPA HPY
            simp only [if_neg hkM] at HPT
            rw [if_pos hkE] at HPA
            go_wp2_with fail
            refine (HAR.out wr).mono ?_
            rintro e w4 ⟨r, rfl, hr, rfl⟩
            by_cases hr0 : r = 0
            · have hr0' : (r : Int) = 0 := by omega
              clear hr0
              go_wp2_with fail
              have hA : Below wr.heap.size wr (wr.alloc (.cells #[.int .u8 5] 5)) := (Below.refl _ _).alloc (Nat.le_refl _) _
              have hap := append_calls D' B d 1 (by decide) HOK.out.left HOK.out.room HOK.out.used' (some ⟨wr.heap.size, 0, none⟩) 1 [5] (by decide) _ (HDK.out.grow hA) (lit8_C wr [5] (by decide))
              have hok5 := HOK.out.append 1 (bs := [5]) (by decide)
              obtain ⟨he5, hps5⟩ := HPA.out
              generalize appendD d 1 [5] = r5 at hap hok5 he5 hps5
              obtain ⟨er5, d5⟩ := r5
              simp only at hap hok5 he5 hps5
              subst he5
              refine hap.mono ?_
              rintro e w5 ⟨rfl, D5, hd5, -, hn5, hk5⟩
              have hD5 : ∀ j, D5 j → w.heap.size ≤ j := fun j hj => (hn5 j hj).elim (HDD.out j) (fun e => by have := HBB.out.size; simp only [World.size_alloc] at e; omega)
              have hB5 : Below w.heap.size w w5 := HBB.out.trans ((hA.mono HBB.out.size).trans (hk5.below HDD.out (by have := HBB.out.size; simp only [World.size_alloc]; omega)))
              clear hap hn5 hk5 hA
              have HOFF := Lib.hid (show d5.off = true from hps5.down (by omega))
              have HD5 := Lib.hid hd5
              have HK5 := Lib.hid hok5
              have HP5 := Lib.hid hps5
              have HDD5 := Lib.hid hD5
              have HBB5 := Lib.hid hB5
              have hon := on_calls D5 B d5 w5 hd5
              rw [HOFF.out] at hon
              have HON := Lib.hid hon
              have hus := used_calls D5 B d5 (by rw [hps5.at.2.2]; omega) w5 hd5
              rw [hps5.at.2.2] at hus
              have HUS := Lib.hid hus
              clear hd5 hok5 hps5 hD5 hB5 hon hus
              go_wp2_with fail
              refine HON.out.mono ?_
              rintro e w6 ⟨rfl, rfl⟩
              go_wp2_with fail
              refine HUS.out.mono ?_
              rintro e w7 ⟨rfl, hB7⟩
              have HB7 := Lib.hid hB7
              clear hB7
              go_wp2
              go_roundw
              case rel => exact ⟨k + 1, s + 1, by go_num, by go_num, by omega, by omega, by omega, Lib.hid ⟨D5, d5, HD5.out.grow HB7.out, HK5.out, HP5.out, HDD5.out, HBB5.out.trans (HB7.out.mono HBB5.out.size)⟩⟩
              case measure => simp [intOf]; omega
            · by_cases hr1 : r = 1
              · have hr0' : (r : Int) = 1 := by omega
                clear hr0 hr1
                go_wp2_with fail
                have hap := sync_calls D' B d HOK.out.left wr HDK.out
                have hok5 := HOK.out.sync
                obtain ⟨he5, hps5⟩ := HPY.out
                generalize syncD d = r5 at hap hok5 he5 hps5
                obtain ⟨er5, d5⟩ := r5
                simp only at hap hok5 he5 hps5
                subst he5
                refine hap.mono ?_
                rintro e w5 ⟨rfl, hd5, hk5⟩
                obtain ⟨D5, hDe⟩ : ∃ D5, D5 = D' := ⟨_, rfl⟩
                rw [← hDe] at hd5
                have hD5 : ∀ j, D5 j → w.heap.size ≤ j := by rw [hDe]; exact HDD.out
                have hB5 : Below w.heap.size w w5 := HBB.out.trans (hk5.below HDD.out HBB.out.size)
                clear hap hk5 hDe
                have HOFF := Lib.hid (show d5.off = true from hps5.down (by omega))
                have HD5 := Lib.hid hd5
                have HK5 := Lib.hid hok5
                have HP5 := Lib.hid hps5
                have HDD5 := Lib.hid hD5
                have HBB5 := Lib.hid hB5
                have hon := on_calls D5 B d5 w5 hd5
                rw [HOFF.out] at hon
                have HON := Lib.hid hon
                have hus := used_calls D5 B d5 (by rw [hps5.at.2.2]; omega) w5 hd5
                rw [hps5.at.2.2] at hus
                have HUS := Lib.hid hus
                clear hd5 hok5 hps5 hD5 hB5 hon hus
                go_wp2_with fail
                refine HON.out.mono ?_
                rintro e w6 ⟨rfl, rfl⟩
                go_wp2_with fail
                refine HUS.out.mono ?_
                rintro e w7 ⟨rfl, hB7⟩
                have HB7 := Lib.hid hB7
                clear hB7
                go_wp2
                go_roundw
                case rel => exact ⟨k + 1, s, by go_num, rfl, by omega, by omega, by omega, Lib.hid ⟨D5, d5, HD5.out.grow HB7.out, HK5.out, HP5.out, HDD5.out, HBB5.out.trans (HB7.out.mono HBB5.out.size)⟩⟩
                case measure => simp [intOf]; omega
              · have hr0' : (r : Int) = 2 := by omega
                clear hr0 hr1
                by_cases hs0 : 0 < s
                · have hs1 : (s : Int) > 0 := by omega
                  go_wp2_with fail
                  have hap := trunc_calls D' B d 1 (by decide) ((s : Int) - 1) HOK.out.left (by have := HOK.out.len 1; omega) wr HDK.out
                  have hok5 := HOK.out.trunc 1 ((s : Int) - 1)
                  obtain ⟨he5, hps5⟩ := (HPT.out hs0)
                  generalize truncD d 1 ((s : Int) - 1) = r5 at hap hok5 he5 hps5
                  obtain ⟨er5, d5⟩ := r5
                  simp only at hap hok5 he5 hps5
                  subst he5
                  refine hap.mono ?_
                  rintro e w5 ⟨rfl, hd5, hk5⟩
                  obtain ⟨D5, hDe⟩ : ∃ D5, D5 = D' := ⟨_, rfl⟩
                  rw [← hDe] at hd5
                  have hD5 : ∀ j, D5 j → w.heap.size ≤ j := by rw [hDe]; exact HDD.out
                  have hB5 : Below w.heap.size w w5 := HBB.out.trans (hk5.below HDD.out HBB.out.size)
                  clear hap hk5 hDe
                  have HOFF := Lib.hid (show d5.off = true from hps5.down (by omega))
                  have HD5 := Lib.hid hd5
                  have HK5 := Lib.hid hok5
                  have HP5 := Lib.hid hps5
                  have HDD5 := Lib.hid hD5
                  have HBB5 := Lib.hid hB5
                  have hon := on_calls D5 B d5 w5 hd5
                  rw [HOFF.out] at hon
                  have HON := Lib.hid hon
                  have hus := used_calls D5 B d5 (by rw [hps5.at.2.2]; omega) w5 hd5
                  rw [hps5.at.2.2] at hus
                  have HUS := Lib.hid hus
                  clear hd5 hok5 hps5 hD5 hB5 hon hus
                  go_wp2_with fail
                  refine HON.out.mono ?_
                  rintro e w6 ⟨rfl, rfl⟩
                  go_wp2_with fail
                  refine HUS.out.mono ?_
                  rintro e w7 ⟨rfl, hB7⟩
                  have HB7 := Lib.hid hB7
                  clear hB7
                  go_wp2
                  go_roundw
                  case rel => exact ⟨k + 1, s, by go_num, rfl, by omega, by omega, by omega, Lib.hid ⟨D5, d5, HD5.out.grow HB7.out, HK5.out, HP5.out, HDD5.out, HBB5.out.trans (HB7.out.mono HBB5.out.size)⟩⟩
                  case measure => simp [intOf]; omega
                · have hs1 : ¬ (s : Int) > 0 := by omega
                  go_wp2_with fail
                  have hap := sync_calls D' B d HOK.out.left wr HDK.out
                  have hok5 := HOK.out.sync
                  obtain ⟨he5, hps5⟩ := HPY.out
                  generalize syncD d = r5 at hap hok5 he5 hps5
                  obtain ⟨er5, d5⟩ := r5
                  simp only at hap hok5 he5 hps5
                  subst he5
                  refine hap.mono ?_
                  rintro e w5 ⟨rfl, hd5, hk5⟩
                  obtain ⟨D5, hDe⟩ : ∃ D5, D5 = D' := ⟨_, rfl⟩
                  rw [← hDe] at hd5
                  have hD5 : ∀ j, D5 j → w.heap.size ≤ j := by rw [hDe]; exact HDD.out
                  have hB5 : Below w.heap.size w w5 := HBB.out.trans (hk5.below HDD.out HBB.out.size)
                  clear hap hk5 hDe
                  have HOFF := Lib.hid (show d5.off = true from hps5.down (by omega))
                  have HD5 := Lib.hid hd5
                  have HK5 := Lib.hid hok5
                  have HP5 := Lib.hid hps5
                  have HDD5 := Lib.hid hD5
                  have HBB5 := Lib.hid hB5
                  have hon := on_calls D5 B d5 w5 hd5
                  rw [HOFF.out] at hon
                  have HON := Lib.hid hon
                  have hus := used_calls D5 B d5 (by rw [hps5.at.2.2]; omega) w5 hd5
                  rw [hps5.at.2.2] at hus
                  have HUS := Lib.hid hus
                  clear hd5 hok5 hps5 hD5 hB5 hon hus
                  go_wp2_with fail
                  refine HON.out.mono ?_
                  rintro e w6 ⟨rfl, rfl⟩
                  go_wp2_with fail
                  refine HUS.out.mono ?_
                  rintro e w7 ⟨rfl, hB7⟩
                  have HB7 := Lib.hid hB7
                  clear hB7
                  go_wp2
                  go_roundw
                  case rel => exact ⟨k + 1, s, by go_num, rfl, by omega, by omega, by omega, Lib.hid ⟨D5, d5, HD5.out.grow HB7.out, HK5.out, HP5.out, HDD5.out, HBB5.out.trans (HB7.out.mono HBB5.out.size)⟩⟩
                  case measure => simp [intOf]; omega
          · have h1 : ((k : Int) ≥ (M : Int)) := by omega
            have h2 : ¬ (k : Int) < (M : Int) := by omega
            have h3 : ¬ (k : Int) ≤ (M : Int) := by omega
            rw [if_neg hkM] at HPA HPY
            simp only [if_neg hkM] at HPT
            rw [if_neg hkE] at HPA
            go_wp2_with fail
            refine (HAR.out wr).mono ?_
            rintro e w4 ⟨r, rfl, hr, rfl⟩
            by_cases hr0 : r = 0
            · have hr0' : (r : Int) = 0 := by omega
              clear hr0
              go_wp2_with fail
              have hA : Below wr.heap.size wr (wr.alloc (.cells #[.int .u8 5] 5)) := (Below.refl _ _).alloc (Nat.le_refl _) _
              have hap := append_calls D' B d 1 (by decide) HOK.out.left HOK.out.room HOK.out.used' (some ⟨wr.heap.size, 0, none⟩) 1 [5] (by decide) _ (HDK.out.grow hA) (lit8_C wr [5] (by decide))
              have hok5 := HOK.out.append 1 (bs := [5]) (by decide)
              obtain ⟨he5, hps5⟩ := HPA.out
              generalize appendD d 1 [5] = r5 at hap hok5 he5 hps5
              obtain ⟨er5, d5⟩ := r5
              simp only at hap hok5 he5 hps5
              subst he5
              refine hap.mono ?_
              rintro e w5 ⟨rfl, D5, hd5, -, hn5, hk5⟩
              have hD5 : ∀ j, D5 j → w.heap.size ≤ j := fun j hj => (hn5 j hj).elim (HDD.out j) (fun e => by have := HBB.out.size; simp only [World.size_alloc] at e; omega)
              have hB5 : Below w.heap.size w w5 := HBB.out.trans ((hA.mono HBB.out.size).trans (hk5.below HDD.out (by have := HBB.out.size; simp only [World.size_alloc]; omega)))
              clear hap hn5 hk5 hA
              have HOFF := Lib.hid (show d5.off = true from hps5.down (by omega))
              have HD5 := Lib.hid hd5
              have HK5 := Lib.hid hok5
              have HP5 := Lib.hid hps5
              have HDD5 := Lib.hid hD5
              have HBB5 := Lib.hid hB5
              have hon := on_calls D5 B d5 w5 hd5
              rw [HOFF.out] at hon
              have HON := Lib.hid hon
              have hus := used_calls D5 B d5 (by rw [hps5.at.2.2]; omega) w5 hd5
              rw [hps5.at.2.2] at hus
              have HUS := Lib.hid hus
              clear hd5 hok5 hps5 hD5 hB5 hon hus
              go_wp2_with fail
              refine HON.out.mono ?_
              rintro e w6 ⟨rfl, rfl⟩
              go_wp2_with fail
              refine HUS.out.mono ?_
              rintro e w7 ⟨rfl, hB7⟩
              have HB7 := Lib.hid hB7
              clear hB7
              go_wp2
              go_roundw
              case rel => exact ⟨k + 1, s, by go_num, rfl, by omega, by omega, by omega, Lib.hid ⟨D5, d5, HD5.out.grow HB7.out, HK5.out, HP5.out, HDD5.out, HBB5.out.trans (HB7.out.mono HBB5.out.size)⟩⟩
              case measure => simp [intOf]; omega
            · by_cases hr1 : r = 1
              · have hr0' : (r : Int) = 1 := by omega
                clear hr0 hr1
                go_wp2_with fail
                have hap := sync_calls D' B d HOK.out.left wr HDK.out
                have hok5 := HOK.out.sync
                obtain ⟨he5, hps5⟩ := HPY.out
                generalize syncD d = r5 at hap hok5 he5 hps5
                obtain ⟨er5, d5⟩ := r5
                simp only at hap hok5 he5 hps5
                subst he5
                refine hap.mono ?_
                rintro e w5 ⟨rfl, hd5, hk5⟩
                obtain ⟨D5, hDe⟩ : ∃ D5, D5 = D' := ⟨_, rfl⟩
                rw [← hDe] at hd5
                have hD5 : ∀ j, D5 j → w.heap.size ≤ j := by rw [hDe]; exact HDD.out
                have hB5 : Below w.heap.size w w5 := HBB.out.trans (hk5.below HDD.out HBB.out.size)
                clear hap hk5 hDe
                have HOFF := Lib.hid (show d5.off = true from hps5.down (by omega))
                have HD5 := Lib.hid hd5
                have HK5 := Lib.hid hok5
                have HP5 := Lib.hid hps5
                have HDD5 := Lib.hid hD5
                have HBB5 := Lib.hid hB5
                have hon := on_calls D5 B d5 w5 hd5
                rw [HOFF.out] at hon
                have HON := Lib.hid hon
                have hus := used_calls D5 B d5 (by rw [hps5.at.2.2]; omega) w5 hd5
                rw [hps5.at.2.2] at hus
                have HUS := Lib.hid hus
                clear hd5 hok5 hps5 hD5 hB5 hon hus
                go_wp2_with fail
                refine HON.out.mono ?_
                rintro e w6 ⟨rfl, rfl⟩
                go_wp2_with fail
                refine HUS.out.mono ?_
                rintro e w7 ⟨rfl, hB7⟩
                have HB7 := Lib.hid hB7
                clear hB7
                go_wp2
                go_roundw
                case rel => exact ⟨k + 1, s, by go_num, rfl, by omega, by omega, by omega, Lib.hid ⟨D5, d5, HD5.out.grow HB7.out, HK5.out, HP5.out, HDD5.out, HBB5.out.trans (HB7.out.mono HBB5.out.size)⟩⟩
                case measure => simp [intOf]; omega
              · have hr0' : (r : Int) = 2 := by omega
                clear hr0 hr1
                by_cases hs0 : 0 < s
                · have hs1 : (s : Int) > 0 := by omega
                  go_wp2_with fail
                  have hap := trunc_calls D' B d 1 (by decide) ((s : Int) - 1) HOK.out.left (by have := HOK.out.len 1; omega) wr HDK.out
                  have hok5 := HOK.out.trunc 1 ((s : Int) - 1)
                  obtain ⟨he5, hps5⟩ := (HPT.out hs0)
                  generalize truncD d 1 ((s : Int) - 1) = r5 at hap hok5 he5 hps5
                  obtain ⟨er5, d5⟩ := r5
                  simp only at hap hok5 he5 hps5
                  subst he5
                  refine hap.mono ?_
                  rintro e w5 ⟨rfl, hd5, hk5⟩
                  obtain ⟨D5, hDe⟩ : ∃ D5, D5 = D' := ⟨_, rfl⟩
                  rw [← hDe] at hd5
                  have hD5 : ∀ j, D5 j → w.heap.size ≤ j := by rw [hDe]; exact HDD.out
                  have hB5 : Below w.heap.size w w5 := HBB.out.trans (hk5.below HDD.out HBB.out.size)
                  clear hap hk5 hDe
                  have HOFF := Lib.hid (show d5.off = true from hps5.down (by omega))
                  have HD5 := Lib.hid hd5
                  have HK5 := Lib.hid hok5
                  have HP5 := Lib.hid hps5
                  have HDD5 := Lib.hid hD5
                  have HBB5 := Lib.hid hB5
                  have hon := on_calls D5 B d5 w5 hd5
                  rw [HOFF.out] at hon
                  have HON := Lib.hid hon
                  have hus := used_calls D5 B d5 (by rw [hps5.at.2.2]; omega) w5 hd5
                  rw [hps5.at.2.2] at hus
                  have HUS := Lib.hid hus
                  clear hd5 hok5 hps5 hD5 hB5 hon hus
                  go_wp2_with fail
                  refine HON.out.mono ?_
                  rintro e w6 ⟨rfl, rfl⟩
                  go_wp2_with fail
                  refine HUS.out.mono ?_
                  rintro e w7 ⟨rfl, hB7⟩
                  have HB7 := Lib.hid hB7
                  clear hB7
                  go_wp2
                  go_roundw
                  case rel => exact ⟨k + 1, s, by go_num, rfl, by omega, by omega, by omega, Lib.hid ⟨D5, d5, HD5.out.grow HB7.out, HK5.out, HP5.out, HDD5.out, HBB5.out.trans (HB7.out.mono HBB5.out.size)⟩⟩
                  case measure => simp [intOf]; omega
                · have hs1 : ¬ (s : Int) > 0 := by omega
                  go_wp2_with fail
                  have hap := sync_calls D' B d HOK.out.left wr HDK.out
                  have hok5 := HOK.out.sync
                  obtain ⟨he5, hps5⟩ := HPY.out
                  generalize syncD d = r5 at hap hok5 he5 hps5
                  obtain ⟨er5, d5⟩ := r5
                  simp only at hap hok5 he5 hps5
                  subst he5
                  refine hap.mono ?_
                  rintro e w5 ⟨rfl, hd5, hk5⟩
                  obtain ⟨D5, hDe⟩ : ∃ D5, D5 = D' := ⟨_, rfl⟩
                  rw [← hDe] at hd5
                  have hD5 : ∀ j, D5 j → w.heap.size ≤ j := by rw [hDe]; exact HDD.out
                  have hB5 : Below w.heap.size w w5 := HBB.out.trans (hk5.below HDD.out HBB.out.size)
                  clear hap hk5 hDe
                  have HOFF := Lib.hid (show d5.off = true from hps5.down (by omega))
                  have HD5 := Lib.hid hd5
                  have HK5 := Lib.hid hok5
                  have HP5 := Lib.hid hps5
                  have HDD5 := Lib.hid hD5
                  have HBB5 := Lib.hid hB5
                  have hon := on_calls D5 B d5 w5 hd5
                  rw [HOFF.out] at hon
                  have HON := Lib.hid hon
                  have hus := used_calls D5 B d5 (by rw [hps5.at.2.2]; omega) w5 hd5
                  rw [hps5.at.2.2] at hus
                  have HUS := Lib.hid hus
                  clear hd5 hok5 hps5 hD5 hB5 hon hus
                  go_wp2_with fail
                  refine HON.out.mono ?_
                  rintro e w6 ⟨rfl, rfl⟩
                  go_wp2_with fail
                  refine HUS.out.mono ?_
                  rintro e w7 ⟨rfl, hB7⟩
                  have HB7 := Lib.hid hB7
                  clear hB7
                  go_wp2
                  go_roundw
                  case rel => exact ⟨k + 1, s, by go_num, rfl, by omega, by omega, by omega, Lib.hid ⟨D5, d5, HD5.out.grow HB7.out, HK5.out, HP5.out, HDD5.out, HBB5.out.trans (HB7.out.mono HBB5.out.size)⟩⟩
                  case measure => simp [intOf]; omega
      · have hlt2i : ¬ (k : Int) < 12 := by omega
        have hltk : (k : Int) < (kinds.length : Int) := by omega
        obtain ⟨D', d, hd, hok, hps, hD, hB⟩ := hst.out
        have hdw : DW w.heap.size w D' B d wr := ⟨hd, hok, hD, hB, hB.size⟩
        have HPC := Lib.hid (plan_crash hps (by omega))
        have HW := Lib.hid hdw
        have HLT := Lib.hid hd.lt
        clear hst hd hok hps hD hB hdw
        go_wp2_with fail
        have hA : Below wr.heap.size wr (wr.alloc (.cells #[.int .i64 1000] 3)) := (Below.refl _ _).alloc (Nat.le_refl _) _
        refine (crash_b (HW.out.grow hA) (some ⟨wr.heap.size, 0, none⟩) 1 1 [1000] rfl (by decide) (by decide) (-1) (by decide) (lit64_keep wr D' HLT.out [1000] (by decide))).mono ?_
        rintro e w2 ⟨rfl, D2, hdw2, -, -, -⟩
        have HW2 := Lib.hid hdw2
        clear hdw2 hA
        have hr := read_b HW2.out 1 (by decide)
        rw [HPC.out.1] at hr
        have HR := Lib.hid hr
        clear hr
        go_wp2_with fail
        refine HR.out.mono ?_
        rintro e w3 ⟨v, rfl, hR, hdw3, -⟩
        obtain ⟨A, c, rfl, -, -⟩ := Kd.R_reads hR
        rw [fives_len]
        have HW3 := Lib.hid hdw3
        clear hdw3 hR
        have hon := on_b HW3.out
        rw [HPC.out.2.1] at hon
        have hsy := sync_b HW3.out
        rw [HPC.out.2.2] at hsy
        have HON := Lib.hid hon
        have HSY := Lib.hid hsy
        clear hon hsy
        go_wp2_with fail
        refine HON.out.mono ?_
        rintro e w4 ⟨rfl, rfl⟩
        go_wp2_with fail
        refine HSY.out.mono ?_
        rintro e w5 ⟨rfl, D5, hdw5, -, -, -⟩
        have HW5 := Lib.hid hdw5
        clear hdw5
        go_wp2_with fail
        refine (lives6_calls w5).mono ?_
        rintro e w6 ⟨rfl, hb6⟩
        have HB6 := Lib.hid (HW5.out.low.trans (hb6.mono HW5.out.size))
        clear hb6
        go_wp2
        go_ret
        exact ⟨rfl, HB6.out⟩
    · have hltk : ¬ (k : Int) < (kinds.length : Int) := by omega
      obtain ⟨D', d, hd, hok, hps, hD, hB⟩ := hst.out
      have hdw : DW w.heap.size w D' B d wr := ⟨hd, hok, hD, hB, hB.size⟩
      have HPC := Lib.hid (plan_crash hps (by omega))
      have HW := Lib.hid hdw
      have HLT := Lib.hid hd.lt
      clear hst hd hok hps hD hB hdw
      go_wp2_with fail
      have hA : Below wr.heap.size wr (wr.alloc (.cells #[.int .i64 1000] 3)) := (Below.refl _ _).alloc (Nat.le_refl _) _
      refine (crash_b (HW.out.grow hA) (some ⟨wr.heap.size, 0, none⟩) 1 1 [1000] rfl (by decide) (by decide) (-1) (by decide) (lit64_keep wr D' HLT.out [1000] (by decide))).mono ?_
      rintro e w2 ⟨rfl, D2, hdw2, -, -, -⟩
      have HW2 := Lib.hid hdw2
      clear hdw2 hA
      have hr := read_b HW2.out 1 (by decide)
      rw [HPC.out.1] at hr
      have HR := Lib.hid hr
      clear hr
      go_wp2_with fail
      refine HR.out.mono ?_
      rintro e w3 ⟨v, rfl, hR, hdw3, -⟩
      obtain ⟨A, c, rfl, -, -⟩ := Kd.R_reads hR
      rw [fives_len]
      have HW3 := Lib.hid hdw3
      clear hdw3 hR
      have hon := on_b HW3.out
      rw [HPC.out.2.1] at hon
      have hsy := sync_b HW3.out
      rw [HPC.out.2.2] at hsy
      have HON := Lib.hid hon
      have HSY := Lib.hid hsy
      clear hon hsy
      go_wp2_with fail
      refine HON.out.mono ?_
      rintro e w4 ⟨rfl, rfl⟩
      go_wp2_with fail
      refine HSY.out.mono ?_
      rintro e w5 ⟨rfl, D5, hdw5, -, -, -⟩
      have HW5 := Lib.hid hdw5
      clear hdw5
      go_wp2_with fail
      refine (lives6_calls w5).mono ?_
      rintro e w6 ⟨rfl, hb6⟩
      have HB6 := Lib.hid (HW5.out.low.trans (hb6.mono HW5.out.size))
      clear hb6
      go_wp2
      go_ret
      exact ⟨rfl, HB6.out⟩

end Go.Proofs.Ytjnbbmiccbjjbaa.Disk
