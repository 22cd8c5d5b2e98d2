/- refuterref07.Records: what it returns. -/
import Derived.Test.YtjnbbmiccbjjbaaRf7a
namespace Go.Proofs.Ytjnbbmiccbjjbaa.Ref07
open Go.RowKit Go.Proofs Go.Proofs.Ytjnbbmiccbjjbaa.Ma Go.Proofs.Ytjnbbmiccbjjbaa.Wire Go.Proofs.Ytjnbbmiccbjjbaa.Rdr Go.Proofs.Ytjnbbmiccbjjbaa.Few Go.Proofs.YtjnbbmiccbjjbaaW.PrintWords Go.Proofs.YtjnbbmiccbjjbaaW.PrintLast

/-- Records that are small. -/
def Small (xs : List (List Int)) : Prop := ∀ x ∈ xs, x.length ≤ 10 ∧ ∀ y ∈ x, 0 ≤ y ∧ y ≤ 255
theorem Small.snoc {xs : List (List Int)} {x : List Int} (h : Small xs) (hl : x.length ≤ 10) (hb : ∀ y ∈ x, 0 ≤ y ∧ y ≤ 255) : Small (xs ++ [x]) := by
  intro z hz
  rcases List.mem_append.1 hz with hz | hz
  · exact h z hz
  · rw [List.mem_singleton.1 hz]; exact ⟨hl, hb⟩

set_option maxRecDepth 100000 in
set_option maxHeartbeats 2000000 in
theorem records_calls (A : Option Addr) (cap : Nat) (l : List Int) (w : World) (hC : Kd.C (Kd.int .i64) w A l.length l) (hl : ∀ x ∈ l, -9223372036854775808 ≤ x ∧ x ≤ 9223372036854775807) :
    Calls Try.prog 37 #[.slice A l.length cap] w fun e w' => ∃ v xs, e = .returned v ∧ KL.R 27 w' w.heap.size (fun _ => True) v xs ∧ xs.length = min l.length 6 ∧ Small xs ∧ Below w.heap.size w w' := by
  have hm := Kd.C_max hC
  have HC := Lib.hid hC
  have HL := Lib.hid hl
  clear hC hl
  go_enter Try.func37, Try.ntmps37
  go_wp2
  go_loopw [3, 4] (fun out i wr => ∃ (k : Nat) (xs : List (List Int)), i = .int .i64 k ∧ k ≤ l.length ∧ k ≤ 6 ∧ xs.length = k ∧ Hid (Small xs) ∧ Hid (KL.R 27 wr w.heap.size (fun _ => True) out xs) ∧ Below w.heap.size w wr) (fun _ i _ => l.length - (intOf i).toNat)
  case atStart => exact ⟨0, [], rfl, Nat.zero_le _, by omega, rfl, Lib.hid (by simp [Small]), Lib.hid (Kd.R_nil _ _ _ _ _), Below.refl _ _⟩
  case round =>
    obtain ⟨k, xs, rfl, hk, hk6, hxl, hs, hR, hB⟩ := hrel
    by_cases hlt : k < l.length
    · by_cases hlt6 : k < 6
      · obtain ⟨ad, ea, hcl⟩ := Kd.at_int (Kd.C_below HC.out hB) (k : Int) (by omega) (by omega)
        subst ea
        have er : rd l k = l[k] := by unfold rd; simp [hlt]
        rw [Int.toNat_natCast, er] at hcl
        have hr := HL.out l[k] (List.getElem_mem hlt)
        generalize l[k] = y at hcl hr
        clear er
        have hsz := hB.size
        have HXL := Lib.hid hxl
        clear hxl
        go_wp2_with (go_at_call 14; refine (around_calls y 1000 hr (by omega) _).mono ?_; rintro e w' ⟨n, rfl, hn, rfl⟩)
        have hq : Int.tmod (n : Int) 11 = ((n % 11 : Nat) : Int) := by rw [Int.tmod_eq_emod_of_nonneg (by omega)]; omega
        rename World => W0
        go_loopw [6, 7] (fun b j W => ∃ (q : Nat) (bs : List Int), j = .int .i64 q ∧ q ≤ n % 11 ∧ bs.length = q ∧ Hid (∀ y ∈ bs, 0 ≤ y ∧ y ≤ 255) ∧ W.ownsRow W0.heap.size 5 1 b bs.length (nums .u8 bs) ∧ Below W0.heap.size W0 W) (fun _ j _ => 11 - (intOf j).toNat)
        case atStart => exact ⟨0, [], rfl, Nat.zero_le _, rfl, Lib.hid (by simp), own_nil _ _ _ _, Below.refl _ _⟩
        case round =>
          obtain ⟨q, bs, rfl, hq1, hbl, hbb, ho, hBi⟩ := hrel
          have hsi := hBi.size
          by_cases hqt : q < n % 11
          · have HBL := Lib.hid hbl
            clear hbl
            go_wp2_with (at_builtin; refine print_append_num (w0 := wr) W0.heap.size rfl _ _ 27 5 .u8 1 rfl Try.underlying27 info8 (by decide) u6 bs _ rfl rfl ho (Below.refl _ _) hsi (by have := HBL.out; omega) ?_; intro v1 w1 ho1 _ hg1 _)
            go_roundw
            case rel => exact ⟨q + 1, _, (by first | rfl | simp), by omega, by rw [List.length_append, HBL.out]; rfl, Lib.hid (bytes_append hbb.out (by intro z hz; rw [List.mem_singleton.1 hz]; generalize wrap64 _ = z1; omega)), ho1, hBi.grown hg1 hBi.size (own_base ho)⟩
            case measure => simp [intOf]; omega
          · have hRo := Kd.R_below hR.out hBi
            have hRb : Kd.R (Kd.int .u8) 5 wr w.heap.size (fun _ => True) u6 bs := Kd.R_lower (Kd.R_of_own ho (fun _ _ => trivial)) hsz
            have hRb' := Kd.R_apartR hRb hRo (by decide)
            have hB2 : Below w.heap.size w wr := hB.trans (hBi.mono hsz)
            have hbl10 : bs.length ≤ 10 := by omega
            obtain ⟨Ab, cb, rfl, _, _⟩ := Kd.R_reads hRb
            have HRO := Lib.hid hRo
            have HRB := Lib.hid hRb'
            clear hRo hRb hRb' hbl ho
            go_wp2_with (at_builtin; refine Kd.R_append KL (w0 := w) w.heap.size rfl (.tmp 39) (.tmp 41) 22 27 (.slice none 0 0) 24 rfl Try.underlying22 infoRow rfl Nat.one_pos (by decide) u3 xs bs [.slice Ab bs.length cb] (fun _ => True) (fun k => True ∧ some k ≠ u3.ownBlock) rfl rfl ⟨_, rfl, HRB.out⟩ (fun _ h => h) (fun _ _ => trivial) HRO.out hB2 hB2.size (by have := HXL.out; omega) ?_; intro v3 w3 ho hb hg _)
            go_roundw
            case rel => exact ⟨k + 1, _, (by first | rfl | simp), by omega, by omega, by rw [List.length_append, HXL.out]; rfl, Lib.hid (hs.out.snoc hbl10 hbb.out), Lib.hid ho, hb⟩
            case measure => simp [intOf]; omega
      · obtain rfl : k = 6 := by omega
        go_wp2
        go_ret
        exact ⟨_, xs, rfl, hR.out, by omega, hs.out, hB⟩
    · go_wp2
      go_ret
      exact ⟨_, xs, rfl, hR.out, by omega, hs.out, hB⟩

end Go.Proofs.Ytjnbbmiccbjjbaa.Ref07
