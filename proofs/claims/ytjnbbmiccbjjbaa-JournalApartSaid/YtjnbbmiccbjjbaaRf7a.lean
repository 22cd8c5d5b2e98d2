/- refuterref01.Around, refuterref07.SameLists, and what speaks of lists of records. -/
import Derived.Test.YtjnbbmiccbjjbaaFew
import Derived.Test.YtjnbbmiccbjjbaaRdL
namespace Go.Proofs.Ytjnbbmiccbjjbaa.Ref07
open Go.RowKit Go.Proofs Go.Proofs.Ytjnbbmiccbjjbaa.Ma Go.Proofs.Ytjnbbmiccbjjbaa.Wire Go.Proofs.Ytjnbbmiccbjjbaa.Rdr Go.Proofs.Ytjnbbmiccbjjbaa.Few Go.Proofs.YtjnbbmiccbjjbaaW.PrintWords Go.Proofs.YtjnbbmiccbjjbaaW.PrintLast

/-- The end of the last record. -/
def endL (l : List (List Int × Int)) : Int := (l.getLast?.map Prod.snd).getD 0

theorem endL_snoc (l : List (List Int × Int)) (r : List Int × Int) : endL (l ++ [r]) = r.2 := by simp [endL]

/-- A byte slice that came in, as an element. -/
abbrev KF (w : World) : Kd (List Int) := Kd.fixed (Kd.slice 5 (Kd.int .u8)) w

theorem infoRow : (Try.prog.info? 27).map (fun i => (i.zero, i.size, i.bytes)) = some (some (.slice none 0 0), 1, 24) := by kernel_rfl

set_option maxHeartbeats 1000000 in
theorem around_calls (n m : Int) (hn : -9223372036854775808 ≤ n ∧ n ≤ 9223372036854775807) (hm : 1 ≤ m ∧ m ≤ 9223372036854775807) (w : World) :
    Calls Try.prog 14 #[.int .i64 n, .int .i64 m] w fun e w' => ∃ r : Nat, e = .returned (.int .i64 r) ∧ (r : Int) < m ∧ w = w' := by
  by_cases h : n < 0
  · have hr : ∃ r : Nat, -Int.tmod (n + 1) m = r ∧ (r : Int) < m := by
      rw [← Int.neg_tmod, Int.tmod_eq_emod_of_nonneg (by omega)]
      have h1 := Int.emod_nonneg (-(n + 1)) (show m ≠ 0 by omega)
      have h2 := Int.emod_lt_of_pos (-(n + 1)) (show 0 < m by omega)
      exact ⟨((-(n + 1)) % m).toNat, by omega, by omega⟩
    obtain ⟨r, hr, hl⟩ := hr
    have HR := Lib.hid hr
    have hm0 : (m == 0) = false := by simp; omega
    clear hr
    go_enter Try.func14, Try.ntmps14
    go_wp2
    all_goals try (exfalso; omega)
    go_ret
    exact ⟨r, congrArg (fun z => Ending.returned (Value.int .i64 z)) HR.out, hl, rfl⟩
  · have hr : ∃ r : Nat, n % m = r ∧ (r : Int) < m := by
      have h1 := Int.emod_nonneg n (show m ≠ 0 by omega)
      have h2 := Int.emod_lt_of_pos n (show 0 < m by omega)
      exact ⟨(n % m).toNat, by omega, by omega⟩
    obtain ⟨r, hr, hl⟩ := hr
    have HR := Lib.hid hr
    have hm0 : (m == 0) = false := by simp; omega
    clear hr
    go_enter Try.func14, Try.ntmps14
    go_wp2
    all_goals try (exfalso; omega)
    go_ret
    exact ⟨r, congrArg (fun z => Ending.returned (Value.int .i64 z)) HR.out, hl, rfl⟩

/-- A list of byte slices, as it is read. -/
abbrev KL : Kd (List Int) := Kd.slice 5 (Kd.int .u8)

theorem kl_at {w : World} {A : Option Addr} {n : Nat} {xs : List (List Int)} (h : KL.C w A n xs) (k : Nat) (hk : k < n) (hx : k < xs.length) :
    ∃ ad Ax cx, A = some ad ∧ w.cell? (ad.add k) = some (.slice Ax xs[k].length cx) ∧ xs[k].length ≤ cx ∧ Kd.C (Kd.int .u8) w Ax xs[k].length xs[k] := by
  obtain ⟨ad, c, rfl, _, hK, hc⟩ := Kd.C_get h [] (k : Int) (by omega) (by omega)
  rw [Int.toNat_natCast] at hK hc
  have e : xs.getD k [] = xs[k] := by simp [List.getD_eq_getElem?_getD, hx]
  rw [e] at hK
  obtain ⟨Ax, cx, rfl, hl, hC⟩ := hK
  have := hc 0 _ rfl
  exact ⟨ad, Ax, cx, rfl, by simpa [KL, Kd.slice] using this, hl, hC⟩

theorem list_take_succ_eq {α : Type} {a b : List α} {i : Nat} (h1 : i < a.length) (h2 : i < b.length) (h : a[i] = b[i]) (ht : a.take i = b.take i) : a.take (i + 1) = b.take (i + 1) := by
  rw [List.take_succ_eq_append_getElem h1, List.take_succ_eq_append_getElem h2, ht, h]

set_option maxRecDepth 100000 in
set_option maxHeartbeats 1000000 in
theorem sameLists_calls (A1 A2 : Option Addr) (c1 c2 : Nat) (a b : List (List Int)) (hl : a.length ≤ 140737488355328) (hin : ∀ x ∈ a, x.length ≤ 140737488355328) (w : World) (hC1 : KL.C w A1 a.length a) (hC2 : KL.C w A2 b.length b) :
    Calls Try.prog 39 #[.slice A1 a.length c1, .slice A2 b.length c2] w fun e w' => e = .returned (.bool (decide (a = b))) ∧ Below w.heap.size w w' := by
  have H1 := Lib.hid hC1
  have H2 := Lib.hid hC2
  clear hC1 hC2
  by_cases hab : a.length = b.length
  · have hne : ((a.length : Int) != (b.length : Int)) = false := by simp [hab]
    have Hab := Lib.hid hab
    have hab1 : a.length ≤ b.length := by omega
    have hab2 : b.length ≤ a.length := by omega
    clear hab
    go_enter Try.func39, Try.ntmps39
    go_wp2
    go_loopw [5] (fun i wr => ∃ k : Nat, i = .int .i64 k ∧ k ≤ a.length ∧ Hid (a.take k = b.take k) ∧ Below w.heap.size w wr) (fun i _ => a.length - (intOf i).toNat)
    case atStart => exact ⟨0, rfl, Nat.zero_le _, Lib.hid rfl, Below.refl _ _⟩
    case round =>
      obtain ⟨k, rfl, hk, ht, hB⟩ := hrel
      by_cases hlt : k < a.length
      · have hlt2 : k < b.length := by omega
        obtain ⟨ad1, Ax, cx, e1, hc1, hxc, hCx⟩ := kl_at (Kd.C_below H1.out hB) k hlt hlt
        obtain ⟨ad2, Ay, cy, e2, hc2, hyc, hCy⟩ := kl_at (Kd.C_below H2.out hB) k hlt2 hlt2
        subst e1 e2
        have hxl := hin _ (List.getElem_mem hlt)
        have hts := fun h => list_take_succ_eq hlt hlt2 h ht.out
        have hnn : a[k] ≠ b[k] → a ≠ b := fun h e => by subst e; exact h rfl
        generalize a[k] = x at hc1 hxc hCx hxl hts hnn
        generalize b[k] = y at hc2 hyc hCy hts hnn
        have Hts := Lib.hid hts
        have Hnn := Lib.hid hnn
        have HS := Lib.hid (fun m => sameBytes_calls Ax Ay cx cy x y hxl (wr.drewN m) (Kd.C_below hCx (below_of_drawn m)) (Kd.C_below hCy (below_of_drawn m)))
        clear hts hnn hCx hCy
        have hk0 : (0 : Int) ≤ (k : Int) := by omega
        have hka : (k : Int) < (a.length : Int) := by omega
        have hkb : (k : Int) < (b.length : Int) := by omega
        by_cases hxy : x = y
        · have hd := decide_eq_true hxy
          rw [hd] at HS
          have HXY := Lib.hid hxy
          clear hxy hd
          go_wp2_with fail
          go_quiet (first | (go_at_call 20; refine (HS.out _).mono ?_; rintro e w' ⟨rfl, n, rfl⟩; exact ⟨rfl, _, World.drewN_drewN _ _ _⟩))
          go_wp2
          go_roundw
          case rel => exact ⟨k + 1, by simp, by omega, Lib.hid (Hts.out HXY.out), pw_below_drewN hB _⟩
          case measure => simp [intOf]; omega
        · have hd := decide_eq_false hxy
          rw [hd] at HS
          have hdd : decide (a = b) = false := decide_eq_false (Hnn.out hxy)
          have HD := Lib.hid hdd
          clear hxy hd hdd
          go_wp2_with fail
          go_quiet (first | (go_at_call 20; refine (HS.out _).mono ?_; rintro e w' ⟨rfl, n, rfl⟩; exact ⟨rfl, _, World.drewN_drewN _ _ _⟩))
          go_wp2
          go_ret
          exact ⟨congrArg (fun z => Ending.returned (Value.bool z)) HD.out.symm, pw_below_drewN hB _⟩
      · obtain rfl : k = a.length := by omega
        have hd : decide (a = b) = true := by
          have := ht.out
          rw [List.take_length, Hab.out, List.take_length] at this
          exact decide_eq_true this
        have Hd := Lib.hid hd
        clear hd
        go_wp2
        go_ret
        exact ⟨congrArg (fun z => Ending.returned (Value.bool z)) Hd.out.symm, hB⟩
  · have hne : ((a.length : Int) != (b.length : Int)) = true := by simp; omega
    have hd : decide (a = b) = false := decide_eq_false (fun e => hab (by rw [e]))
    rw [hd]
    clear hd hab
    go_enter Try.func39, Try.ntmps39
    go_wp2
    go_ret
    exact ⟨rfl, Below.refl _ _⟩

end Go.Proofs.Ytjnbbmiccbjjbaa.Ref07
