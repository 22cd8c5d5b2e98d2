/- The reference functions of package refuterref01: what they return. -/
import Derived.Deep.QuietTactic
import Derived.BigQuiet
import Derived.Lib.ConvBytes
import Derived.Test.YtbihjkpbmebpbaaRdr
namespace Go.Proofs.Ytbihjkpbmebpbaa.Ref01
open Go.RowKit Go.Proofs Go.Proofs.Ytbihjkpbmebpbaa.Ma Go.Proofs.Ytbihjkpbmebpbaa.Wire Go.Proofs.YtbihjkpbmebpbaaW.PrintWords Go.Proofs.YtbihjkpbmebpbaaW.PrintLast

theorem below_of_drawn {w : World} (n : Nat) : Below w.heap.size w (w.drewN n) := pw_below_drewN (Below.refl _ _) n

set_option maxHeartbeats 1000000 in
theorem few_calls (A : Option Addr) (cap : Nat) (l : List Int) (n : Nat) (hl : min l.length n ≤ 140737488355327) (hcap : l.length ≤ cap) (w : World) (hC : Kd.C (Kd.int .u8) w A l.length l) :
    Calls Try.prog 7 #[.slice A l.length cap, .int .i64 n] w fun e w' => ∃ v, e = .returned v ∧ Kd.R (Kd.int .u8) 5 w' w.heap.size (fun _ => True) v (l.take n) ∧ Below w.heap.size w w' := by
  obtain ⟨i0, hi, hz0, hz1, hz2⟩ := info_parts info8
  by_cases h : (n : Int) < (l.length : Int)
  · have h2 := (print_take_of (P := Try.prog) (Value.int .u8) 0 23 5 .i64 Try.underlying23 hi hz1 A cap l (n : Int) (by omega) (by omega) hcap).2.1
    have k2 : Kd.C (Kd.int .u8) w A (l.take n).length (l.take n) := Kd.C_of_reads (h1 := fun _ => rfl) (h2 _ (Kd.reads_of_C hC))
    have hln : (l.take n).length = n := by rw [List.length_take]; omega
    rw [hln] at k2
    clear hln hi hz0 hz1 hz2 h2
    go_enter Try.func7, Try.ntmps7
    go_wp2_with (at_builtin; refine Kd.R_append_rows (Kd.int .u8) (Rr := (Kd.int .u8).K w) (w0 := w) w.heap.size rfl _ _ 23 5 (.int .u8 0) 1 rfl Try.underlying23 info8 rfl (by decide) (by decide) _ [] (l.take n) A n cap (fun _ => True) (fun _ => False) rfl rfl (Kd.R_nil _ _ _ _ _) k2 (fun _ _ h => h) (fun _ h => h.elim) (fun _ _ => trivial) (Below.refl _ _) (Nat.le_refl _) (by simp; omega) ?_; intro v1 w1 ho hb hg _)
    all_goals try (exfalso; omega)
    go_ret
    exact ⟨_, rfl, by simpa using ho, hb⟩
  · have hln : l.take n = l := List.take_of_length_le (by omega)
    rw [hln]
    clear hln hi hz0 hz1 hz2
    go_enter Try.func7, Try.ntmps7
    go_wp2_with (at_builtin; refine Kd.R_append_rows (Kd.int .u8) (Rr := (Kd.int .u8).K w) (w0 := w) w.heap.size rfl _ _ 23 5 (.int .u8 0) 1 rfl Try.underlying23 info8 rfl (by decide) (by decide) _ [] l A l.length cap (fun _ => True) (fun _ => False) rfl rfl (Kd.R_nil _ _ _ _ _) hC (fun _ _ h => h) (fun _ h => h.elim) (fun _ _ => trivial) (Below.refl _ _) (Nat.le_refl _) (by simp; omega) ?_; intro v1 w1 ho hb hg _)
    all_goals try (exfalso; omega)
    go_ret
    exact ⟨_, rfl, by simpa using ho, hb⟩

theorem map_range_succ {α : Type} (f : Nat → α) (k : Nat) : (List.range (k + 1)).map f = (List.range k).map f ++ [f k] := by simp [List.range_succ]

theorem drop_ne {a b : List Int} {i : Nat} (h1 : i < a.length) (h2 : i < b.length) (h : a[i] ≠ b[i]) : a ≠ b := fun e => by subst e; exact h rfl
theorem take_eq_succ {a b : List Int} {i : Nat} (h1 : i < a.length) (h2 : i < b.length) (h : a[i] = b[i]) (ht : a.take i = b.take i) : a.take (i + 1) = b.take (i + 1) := by
  rw [List.take_succ_eq_append_getElem h1, List.take_succ_eq_append_getElem h2, ht, h]

set_option maxRecDepth 100000 in
set_option maxHeartbeats 1000000 in
theorem sameBytes_calls (A1 A2 : Option Addr) (c1 c2 : Nat) (a b : List Int) (hl : a.length ≤ 140737488355328) (w : World) (hC1 : Kd.C (Kd.int .u8) w A1 a.length a) (hC2 : Kd.C (Kd.int .u8) w A2 b.length b) :
    Calls Try.prog 8 #[.slice A1 a.length c1, .slice A2 b.length c2] w fun e w' => e = .returned (.bool (decide (a = b))) ∧ ∃ n, w' = w.drewN n := by
  have H1 := Lib.hid hC1
  have H2 := Lib.hid hC2
  clear hC1 hC2
  by_cases hab : a.length = b.length
  · have hne : ((a.length : Int) != (b.length : Int)) = false := by simp [hab]
    have Hab := Lib.hid hab
    have hab1 : a.length ≤ b.length := by omega
    have hab2 : b.length ≤ a.length := by omega
    clear hab
    go_enter Try.func8, Try.ntmps8
    go_wp2
    go_loopw [5] (fun i wr => ∃ k : Nat, i = .int .i64 k ∧ k ≤ a.length ∧ Hid (a.take k = b.take k) ∧ Hid (∃ n, wr = w.drewN n)) (fun i _ => a.length - (intOf i).toNat)
    case atStart => exact ⟨0, rfl, Nat.zero_le _, Lib.hid rfl, Lib.hid ⟨0, rfl⟩⟩
    case round =>
      obtain ⟨k, rfl, hk, ht, hn⟩ := hrel
      by_cases hlt : k < a.length
      · obtain ⟨n, hn'⟩ := hn.out
        obtain ⟨x, y, hx, hy, hcx, hcy⟩ : ∃ x y, a[k]'hlt = x ∧ b[k]'(by omega) = y ∧ (∃ ad, A1 = some ad ∧ wr.cell? (ad.add k) = some (.int .u8 x)) ∧ ∃ ad, A2 = some ad ∧ wr.cell? (ad.add k) = some (.int .u8 y) := by
          have g1 := Kd.at_int (Kd.C_below H1.out (below_of_drawn n)) (k : Int) (by omega) (by omega)
          have g2 := Kd.at_int (Kd.C_below H2.out (below_of_drawn n)) (k : Int) (by omega) (by omega)
          have e1 : rd a k = a[k]'hlt := by unfold rd; simp [hlt]
          have e2 : rd b k = b[k]'(by omega) := by unfold rd; simp [show k < b.length by omega]
          rw [e1, Int.toNat_natCast, ← hn'] at g1
          rw [e2, Int.toNat_natCast, ← hn'] at g2
          exact ⟨_, _, rfl, rfl, g1, g2⟩
        obtain ⟨ad1, rfl, hc1⟩ := hcx
        obtain ⟨ad2, rfl, hc2⟩ := hcy
        have Hx := Lib.hid hx
        have Hy := Lib.hid hy
        have Hn := Lib.hid hn'
        have hk0 : (0 : Int) ≤ (k : Int) := by omega
        have hka : (k : Int) < (a.length : Int) := by omega
        have hkb : (k : Int) < (b.length : Int) := by omega
        clear hx hy hn' hn
        by_cases hxy : x = y
        · have hb1 : (x != y) = false := by simp [hxy]
          have HXY := Lib.hid hxy
          clear hxy
          go_wp2
          go_quiet (fail)
          go_wp2
          go_roundw
          case rel => exact ⟨k + 1, by simp, by omega, Lib.hid (take_eq_succ hlt (by omega) (by rw [Hx.out, Hy.out, HXY.out]) ht.out), Lib.hid (by rw [Hn.out]; exact ⟨_, World.drewN_drewN ..⟩)⟩
          case measure => simp [intOf]; omega
        · have hb1 : (x != y) = true := by simpa using hxy
          have hd : decide (a = b) = false := decide_eq_false (drop_ne hlt (by omega) (by rw [Hx.out, Hy.out]; exact hxy))
          have HD := Lib.hid hd
          clear hxy hd
          go_wp2
          go_quiet (fail)
          go_wp2
          go_ret
          exact ⟨congrArg (fun z => Ending.returned (Value.bool z)) HD.out.symm, by rw [Hn.out]; exact ⟨_, World.drewN_drewN ..⟩⟩
      · obtain rfl : k = a.length := by omega
        have hd : decide (a = b) = true := by
          apply decide_eq_true
          have h1 := ht.out
          rwa [List.take_length, Hab.out, List.take_length] at h1
        have HD := Lib.hid hd
        clear hd
        go_wp2
        go_ret
        exact ⟨congrArg (fun z => Ending.returned (Value.bool z)) HD.out.symm, hn.out⟩
  · have hne : ((a.length : Int) != (b.length : Int)) = true := by simp; omega
    have hd : decide (a = b) = false := decide_eq_false (fun e => hab (by rw [e]))
    rw [hd]
    clear hd
    go_enter Try.func8, Try.ntmps8
    go_wp2
    go_ret
    exact ⟨rfl, 0, rfl⟩

set_option maxHeartbeats 1000000 in
theorem mix_calls (s x : Int) (w : World) :
    Calls Try.prog 68 #[.int .u64 s, .int .u64 x] w fun e w' => e = .returned (.int .u64 (mixL s x)) ∧ w = w' := by
  have hm := mixL_ref s x
  go_enter Try.func68, Try.ntmps68
  go_wp2
  go_ret
  exact ⟨rfl, rfl⟩

theorem infoU64 : (Try.prog.info? 42).map (fun i => (i.zero, i.size, i.bytes)) = some (some (.int .u64 0), 1, 8) := by kernel_rfl
theorem infoInt : (Try.prog.info? 3).map (fun i => (i.zero, i.size, i.bytes)) = some (some (.int .i64 0), 1, 8) := by kernel_rfl

set_option maxRecDepth 100000 in
set_option maxHeartbeats 1000000 in
theorem words_calls (A : Option Addr) (cap : Nat) (l : List Int) (hb : ∀ x ∈ l, 0 ≤ x ∧ x ≤ 255) (hl : l.length ≤ 70368744177664) (w : World) (hC : Kd.C (Kd.int .u8) w A l.length l) :
    Calls Try.prog 53 #[.slice A l.length cap] w fun e w' => ∃ v, e = .returned v ∧ Kd.R (Kd.int .u64) 42 w' w.heap.size (fun _ => True) v (wordsF (rdN l) l.length) ∧ Below w.heap.size w w' := by
  have hbr := rdN_range l hb
  have H1 := Lib.hid hC
  clear hC
  go_enter Try.func53, Try.ntmps53
  go_wp2
  go_loopw [3, 4] (fun out i wr => ∃ q : Nat, i = .int .i64 (8 * (q : Int)) ∧ 8 * q < l.length + 8 ∧ wr.ownsRow w.heap.size 42 1 out ((List.range q).map fun k => wv (rdN l) (8 * k) (min 8 (l.length - 8 * k))).length (nums .u64 ((List.range q).map fun k => wv (rdN l) (8 * k) (min 8 (l.length - 8 * k)))) ∧ Below w.heap.size w wr) (fun _ i _ => l.length + 8 - (intOf i).toNat)
  case atStart => exact ⟨0, rfl, by omega, own_nil _ _ _ _, Below.refl _ _⟩
  case round =>
    obtain ⟨q, rfl, hq, ho, hB⟩ := hrel
    have hlen : ((List.range q).map fun k => wv (rdN l) (8 * k) (min 8 (l.length - 8 * k))).length = q := by simp
    have hnx := map_range_succ (fun k => wv (rdN l) (8 * k) (min 8 (l.length - 8 * k))) q
    have hfin : (l.length + 7) / 8 = q → wordsF (rdN l) l.length = (List.range q).map fun k => wv (rdN l) (8 * k) (min 8 (l.length - 8 * k)) := fun e => by unfold wordsF; rw [e]
    generalize ((List.range q).map fun k => wv (rdN l) (8 * k) (min 8 (l.length - 8 * k))) = xs at ho hlen hnx hfin
    have HN := Lib.hid hnx
    have HF := Lib.hid hfin
    have HL := Lib.hid hlen
    clear hnx hfin hlen
    by_cases hlt : 8 * q < l.length
    · obtain ⟨M, hM, hM8⟩ : ∃ M : Nat, M = min 8 (l.length - 8 * q) ∧ 1 ≤ M := ⟨_, rfl, by omega⟩
      have HM := Lib.hid hM
      have hMl : M ≤ 8 ∧ 8 * q + M ≤ l.length ∧ (M = 8 ∨ 8 * q + M = l.length) := by omega
      clear hM
      have hsz := hB.size
      by_cases hfull : (l.length : Int) < 8 * (q : Int) + 8
      all_goals
        go_wp2
        go_loopw [5, 6] (fun v k W' => ∃ j : Nat, j ≤ M ∧ k = .int .i64 (8 * (q : Int) + j - 1) ∧ v = .int .u64 (wv (rdN l) (8 * q + j) (M - j)) ∧ W' = wr) (fun _ k _ => (intOf k + 1 - 8 * q).toNat)
        case atStart => exact ⟨M, Nat.le_refl _, by go_num, by simp [wv], rfl⟩
        case round =>
          obtain ⟨j, hj, rfl, rfl, rfl⟩ := hrel
          by_cases hj0 : 0 < j
          · obtain ⟨j, rfl⟩ : ∃ m, j = m + 1 := ⟨j - 1, by omega⟩
            obtain ⟨ad, ea, hcl⟩ := Kd.at_int (Kd.C_below H1.out hB) (8 * (q : Int) + j) (by omega) (by omega)
            subst ea
            have ei : (8 * (q : Int) + j).toNat = 8 * q + j := by omega
            rw [ei] at hcl
            have er : rd l (8 * (q : Int) + j) = rdN l (8 * q + j) := by unfold rd rdN; rw [ei]
            rw [er] at hcl
            have hx := hbr (8 * q + j)
            have hwr := wv_u64 (rdN l) hbr (8 * q + j) (M - j) (by omega)
            have hws := wv_range (rdN l) hbr (8 * q + (j + 1)) (M - (j + 1))
            have hwh := wv_head (rdN l) (8 * q + j) (M - (j + 1))
            rw [show M - (j + 1) + 1 = M - j by omega, show 8 * q + j + 1 = 8 * q + (j + 1) by omega] at hwh
            have hst : IntKind.u64.wrap (IntKind.u64.wrap (256 * wv (rdN l) (8 * q + (j + 1)) (M - (j + 1))) + rdN l (8 * q + j)) = wv (rdN l) (8 * q + j) (M - j) := by
              rw [IntKind.wrap_u64, IntKind.wrap_u64]; omega
            have HST := Lib.hid hst
            clear ei er hwh hst hwr
            go_wp2
            go_roundw
            case rel => exact ⟨j, by omega, by go_num, by rw [HST.out], trivial⟩
            case measure => simp [intOf]; omega
          · obtain rfl : j = 0 := by omega
            have hsz2 : w.heap.size ≤ wr.heap.size := hB.size
            go_wp2_with (at_builtin; refine print_append_num (w0 := wr) w.heap.size rfl _ _ 92 42 .u64 8 rfl Try.underlying92 infoU64 (by decide) u3 xs _ rfl rfl ho (Below.refl _ _) hsz2 (by have := HL.out; omega) ?_; intro v1 w1 ho1 _ hg1 _)
            go_roundw
            case rel => exact ⟨q + 1, by go_num, by omega, by rw [HN.out, ← HM.out]; exact ho1, hB.grown hg1 hB.size (own_base ho)⟩
            case measure => simp [intOf]; omega
    · have he := HF.out (by omega)
      have HE := Lib.hid he
      clear he
      go_wp2
      go_ret
      exact ⟨_, rfl, by rw [HE.out]; exact Kd.R_of_own ho (fun _ _ => trivial), hB⟩


theorem rd_bytes (s : ByteArray) : rdN (bytesOf s) = bsN s := by
  funext j
  unfold rdN bsN bytesOf
  by_cases h : j < s.size
  · have hl : j < s.data.toList.length := by simpa using h
    rw [dif_pos h, List.getD_eq_getElem?_getD, List.getElem?_map, List.getElem?_eq_getElem hl]
    rfl
  · have hl : s.data.toList.length ≤ j := by simpa using h
    rw [dif_neg h, List.getD_eq_getElem?_getD, List.getElem?_map, List.getElem?_eq_none hl]
    rfl
theorem bytesOf_byte (s : ByteArray) : ∀ x ∈ bytesOf s, 0 ≤ x ∧ x ≤ 255 := by
  intro x hx
  simp only [bytesOf, List.mem_map] at hx
  obtain ⟨b, _, rfl⟩ := hx
  have := b.toNat_lt
  omega
/-- The row that []byte(s) makes. -/
theorem bytesW_below (w : World) (e : TypeId) (s : ByteArray) : Below w.heap.size w (Lib.bytesWorld w e s) :=
  ⟨rfl, rfl, rfl, by rw [Lib.bytesWorld_size]; omega, fun k hk => Lib.bytesWorld_at_old w e s k hk⟩
theorem bytesW_C (w : World) (e : TypeId) (s : ByteArray) (hs : s.size ≤ 9223372036854775807) : Kd.C (Kd.int .u8) (Lib.bytesWorld w e s) (some ⟨w.heap.size, 0, none⟩) (bytesOf s).length (bytesOf s) := by
  refine Kd.C_of_reads (d := (0 : Int)) (h1 := fun _ => rfl) ⟨rfl, by rw [bytesOf_length]; exact hs, fun _ => ⟨_, rfl, fun j hj => ?_⟩⟩
  rw [bytesOf_length] at hj
  rw [add_plain, Lib.bytesWorld_cell w e s j hj]
  have hl : j < s.data.toList.length := by simpa using hj
  congr 2
  unfold bytesOf
  rw [List.getD_eq_getElem?_getD, List.getD_eq_getElem?_getD, List.getElem?_map, List.getElem?_eq_getElem hl]
  rfl

theorem foldl_take_succ (f : Int → Int → Int) (z : Int) (xs : List Int) (k : Nat) (h : k < xs.length) : (xs.take (k + 1)).foldl f z = f ((xs.take k).foldl f z) xs[k] := by
  rw [List.take_succ_eq_append_getElem h, List.foldl_append]; rfl

set_option maxRecDepth 100000 in
set_option maxHeartbeats 1000000 in
theorem sum_calls (s : ByteArray) (hs : s.size ≤ 70368744177664) (A : Option Addr) (cap : Nat) (l : List Int) (w : World) (hC : Kd.C (Kd.int .i64) w A l.length l) :
    Calls Try.prog 54 #[.string s, .slice A l.length cap] w fun e w' => e = .returned (.int .u64 (sumL (wordsF (bsN s) s.size) s.size l)) ∧ Below w.heap.size w w' := by
  have kc := fun W : World => Lib.run_convert_string_bytes (P := Try.prog) W 9 23 5 s Try.underlying9 Try.underlying23 Try.underlying5
  have hm := Kd.C_max hC
  have HC := Lib.hid hC
  clear hC
  go_enter Try.func54, Try.ntmps54
  go_wp2_with fail
  have hBb := bytesW_below w 5 s
  have hCb := bytesW_C w 5 s (by omega)
  generalize Lib.bytesWorld w 5 s = w1 at hBb hCb ⊢
  generalize grownCap w s.size 0 5 = cp
  have hlb := bytesOf_length s
  have hW := words_calls (some ⟨w.heap.size, 0, none⟩) cp (bytesOf s) (bytesOf_byte s) (by omega) w1 hCb
  rw [rd_bytes, hlb] at hW
  generalize hws : wordsF (bsN s) s.size = ws at hW
  have HWS := Lib.hid hws
  clear hws
  refine hW.mono ?_
  rintro e w2 ⟨v, rfl, hR, hB2⟩
  clear hW hCb hlb
  have hB : Below w.heap.size w w2 := hBb.trans (hB2.mono hBb.size)
  obtain ⟨A2, c2, rfl, _, hC2⟩ := Kd.R_reads hR
  have hm2 := Kd.C_max hC2
  have HC2 := Lib.hid hC2
  clear hC2 hR
  go_wp2
  go_loopw [5, 7] (fun v i wr => ∃ k : Nat, i = .int .i64 k ∧ k ≤ ws.length ∧ v = .int .u64 ((ws.take k).foldl mixL 0) ∧ wr = w2) (fun _ i _ => ws.length - (intOf i).toNat)
  case atStart => exact ⟨0, rfl, Nat.zero_le _, by simp, rfl⟩
  case round =>
    obtain ⟨k, rfl, hk, rfl, rfl⟩ := hrel
    by_cases hlt : k < ws.length
    · obtain ⟨ad, ea, hcl⟩ := Kd.at_int HC2.out (k : Int) (by omega) (by omega)
      subst ea
      have er : rd ws k = ws[k] := by unfold rd; simp [hlt]
      rw [Int.toNat_natCast, er] at hcl
      have hf := foldl_take_succ mixL 0 ws k hlt
      have HF := Lib.hid hf
      clear er hf
      generalize ws[k] = y at hcl HF
      generalize (ws.take k).foldl mixL 0 = z at HF ⊢
      go_wp2_with (go_at_call 68; refine (mix_calls _ _ _).mono ?_; rintro e w' ⟨rfl, rfl⟩)
      go_roundw
      case rel => exact ⟨k + 1, by go_num, by omega, by rw [HF.out], trivial⟩
      case measure => simp [intOf]; omega
    · obtain rfl : k = ws.length := by omega
      rw [List.take_length]
      generalize hz : ws.foldl mixL 0 = z
      have Hz := Lib.hid hz
      clear hz
      go_wp2_with (go_at_call 68; refine (mix_calls _ _ _).mono ?_; rintro e w' ⟨rfl, rfl⟩)
      go_loopw [5, 8] (fun v i W' => ∃ k : Nat, i = .int .i64 k ∧ k ≤ l.length ∧ v = .int .u64 (((l.map fun x => IntKind.u64.wrap x).take k).foldl mixL (mixL (mixL z s.size) l.length)) ∧ W' = wr) (fun _ i _ => l.length - (intOf i).toNat)
      case atStart => exact ⟨0, rfl, Nat.zero_le _, by simp, rfl⟩
      case round =>
        obtain ⟨k, rfl, hk, rfl, rfl⟩ := hrel
        by_cases hlt : k < l.length
        · obtain ⟨ad, ea, hcl⟩ := Kd.at_int (Kd.C_below HC.out hB) (k : Int) (by omega) (by omega)
          subst ea
          have er : rd l k = l[k] := by unfold rd; simp [hlt]
          rw [Int.toNat_natCast, er] at hcl
          have hf := foldl_take_succ mixL (mixL (mixL z s.size) l.length) (l.map fun x => IntKind.u64.wrap x) k (by simpa using hlt)
          rw [List.getElem_map] at hf
          have HF := Lib.hid hf
          clear er hf
          generalize l[k] = y at hcl HF
          generalize ((l.map fun x => IntKind.u64.wrap x).take k).foldl mixL (mixL (mixL z s.size) l.length) = z2 at HF ⊢
          go_wp2_with (go_at_call 68; refine (mix_calls _ _ _).mono ?_; rintro e w' ⟨rfl, rfl⟩)
          go_roundw
          case rel => exact ⟨k + 1, by go_num, by omega, by rw [HF.out], trivial⟩
          case measure => simp [intOf]; omega
        · obtain rfl : k = l.length := by omega
          rw [List.take_of_length_le (by simp)]
          have hsum : sumL (wordsF (bsN s) s.size) s.size l = mixL ((l.map fun x => IntKind.u64.wrap x).foldl mixL (mixL (mixL z s.size) l.length)) 0 := by rw [HWS.out, ← Hz.out]; rfl
          have HS := Lib.hid hsum
          clear hsum
          go_wp2_with (go_at_call 68; refine (mix_calls _ _ _).mono ?_; rintro e w' ⟨rfl, rfl⟩)
          go_ret
          exact ⟨congrArg (fun z => Ending.returned (Value.int .u64 z)) HS.out.symm, hB⟩


set_option maxRecDepth 100000 in
set_option maxHeartbeats 1000000 in
theorem bytes_calls (s : ByteArray) (hs : s.size ≤ 70368744177664) (A : Option Addr) (cap : Nat) (b : List Int) (hb : ∀ x ∈ b, 0 ≤ x ∧ x ≤ 255) (hl : b.length ≤ 70368744177664) (w : World) (hC : Kd.C (Kd.int .u8) w A b.length b) :
    Calls Try.prog 35 #[.string s, .slice A b.length cap] w fun e w' => e = .returned (.int .u64 (bytesN s b)) ∧ Below w.heap.size w w' := by
  have hwl := wordsF_length (rdN b) b.length
  have hW := words_calls A cap b hb hl w hC
  have hbn : ((bytesN s b : Nat) : Int) = sumL (wordsF (bsN s) s.size) s.size ((wordsF (rdN b) b.length).map (fun x => wrap64 x) ++ [(b.length : Int)]) := (bytesN_eq s b).symm
  rw [hbn]
  clear hbn
  generalize wordsF (rdN b) b.length = ws at hW hwl ⊢
  have HW := Lib.hid hW
  have HWL := Lib.hid hwl
  clear hW hwl hC
  go_enter Try.func35, Try.ntmps35
  go_wp2_with fail
  refine HW.out.mono ?_
  rintro e w2 ⟨v, rfl, hR, hB2⟩
  obtain ⟨A2, c2, rfl, _, hC2⟩ := Kd.R_reads hR
  have hm2 := Kd.C_max hC2
  have HC2 := Lib.hid hC2
  clear hC2 hR
  have hwl2 : ws.length ≤ 8796093022209 := by have := HWL.out; omega
  go_wp2
  go_loopw [6, 7] (fun v i wr => ∃ k : Nat, i = .int .i64 k ∧ k ≤ ws.length ∧ wr.ownsRow w2.heap.size 3 1 v ((ws.map fun x => wrap64 x).take k).length (nums .i64 ((ws.map fun x => wrap64 x).take k)) ∧ Below w2.heap.size w2 wr) (fun _ i _ => ws.length - (intOf i).toNat)
  case atStart => exact ⟨0, rfl, Nat.zero_le _, own_nil _ _ _ _, Below.refl _ _⟩
  case round =>
    obtain ⟨k, rfl, hk, ho, hB⟩ := hrel
    have hsz := hB.size
    by_cases hlt : k < ws.length
    · obtain ⟨ad, ea, hcl⟩ := Kd.at_int (Kd.C_below HC2.out hB) (k : Int) (by omega) (by omega)
      subst ea
      have er : rd ws k = ws[k] := by unfold rd; simp [hlt]
      rw [Int.toNat_natCast, er] at hcl
      have ht : (ws.map fun x => wrap64 x).take (k + 1) = (ws.map fun x => wrap64 x).take k ++ [wrap64 ws[k]] := by rw [List.take_succ_eq_append_getElem (by simpa using hlt), List.getElem_map]
      have hln : ((ws.map fun x => wrap64 x).take k).length = k := by rw [List.length_take, List.length_map]; omega
      generalize ((ws.map fun x => wrap64 x).take k) = xs at ho ht hln
      have HT := Lib.hid ht
      have HLN := Lib.hid hln
      clear er ht hln
      generalize ws[k] = y at hcl HT
      go_wp2_with (at_builtin; refine print_append_num (w0 := wr) w2.heap.size rfl _ _ 22 3 .i64 8 rfl Try.underlying22 infoInt (by decide) u6 xs _ rfl rfl ho (Below.refl _ _) hsz (by have := HLN.out; omega) ?_; intro v1 w1 ho1 _ hg1 _)
      go_roundw
      case rel => exact ⟨k + 1, by go_num, by omega, by rw [HT.out]; exact ho1, hB.grown hg1 hB.size (own_base ho)⟩
      case measure => simp [intOf]; omega
    · obtain rfl : k = ws.length := by omega
      rw [List.take_of_length_le (by simp)] at ho
      have hln : (ws.map fun x => wrap64 x).length = ws.length := by simp
      generalize hxs : (ws.map fun x => wrap64 x) = xs at ho hln
      have HLN := Lib.hid hln
      have HXS := Lib.hid hxs
      clear hln hxs
      go_wp2_with (first
        | (at_builtin; refine print_append_num (w0 := wr) w2.heap.size rfl _ _ 22 3 .i64 8 rfl Try.underlying22 infoInt (by decide) u6 xs _ rfl rfl ho (Below.refl _ _) hsz (by have := HLN.out; omega) ?_; intro v1 w1 ho1 hb1 hg1 _))
      have hB3 : Below w2.heap.size w2 w1 := hB.grown hg1 hB.size (own_base ho)
      obtain ⟨A1, c1, rfl, _, hC1⟩ := Kd.R_reads (Kd.R_of_own (h1 := fun _ => rfl) (enc := Value.int .i64) (ok := fun _ => True) ho1 (fun _ _ => trivial))
      have hll : (xs ++ [(b.length : Int)]).length = xs.length + 1 := by simp
      refine (sum_calls s hs _ _ (xs ++ [(b.length : Int)]) w1 hC1).mono ?_
      rintro e w3 ⟨rfl, hB4⟩
      have hZ : sumL (wordsF (bsN s) s.size) s.size ((ws.map fun x => wrap64 x) ++ [(b.length : Int)]) = sumL (wordsF (bsN s) s.size) s.size (xs ++ [(b.length : Int)]) := by rw [HXS.out]
      generalize sumL (wordsF (bsN s) s.size) s.size (xs ++ [(b.length : Int)]) = z at hZ ⊢
      have HZ := Lib.hid hZ
      clear hZ
      go_wp2
      go_ret
      exact ⟨congrArg (fun z => Ending.returned (Value.int .u64 z)) HZ.out.symm, hB2.trans ((hB3.trans (hB4.mono hB3.size)).mono hB2.size)⟩

end Go.Proofs.Ytbihjkpbmebpbaa.Ref01
