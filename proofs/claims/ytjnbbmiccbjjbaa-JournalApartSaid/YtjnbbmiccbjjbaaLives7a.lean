/- refuterlaw07.lives: it returns true. -/
import Derived.Test.YtjnbbmiccbjjbaaRec7a
import Derived.Test.YtjnbbmiccbjjbaaScan
import Derived.Test.YtjnbbmiccbjjbaaPl7
namespace Go.Proofs.Ytjnbbmiccbjjbaa.Lives7
open Go.RowKit Go.Proofs Go.Proofs.Ytjnbbmiccbjjbaa.Ma Go.Proofs.Ytjnbbmiccbjjbaa.Wire Go.Proofs.Ytjnbbmiccbjjbaa.Rdr Go.Proofs.Ytjnbbmiccbjjbaa.Scan Go.Proofs.Ytjnbbmiccbjjbaa.Few Go.Proofs.Ytjnbbmiccbjjbaa.Ref07 Go.Proofs.YtjnbbmiccbjjbaaW.PrintWords Go.Proofs.YtjnbbmiccbjjbaaW.PrintLast

/-- An append onto a row of one's own, where the old slice is read further on: the new row lies in the old one's block, or no old block is touched. -/
theorem append_keep {P : Program} (w : World) {ops : Array Oper} {rest : List Oper} {o : Oper} {a : Act} {Q : Exit → Act → World → Prop} (hgd : o.guard = none) (s x : Operand) (t : TypeId)
    (ho : o.op = .call { callee := .builtin .append, args := #[s, x], argTypes := #[t, t] })
    (base : Nat) (e : TypeId) (i : TypeInfo) (z : Value) (size bytes : Nat) (ht : P.underlying t = some (.slice e)) (hi : P.info? e = some i) (hz : i.zero = some z)
    (hsize : i.size = size) (hby : i.bytes = bytes) (hzs : z.cells.size = size) (hsz : 0 < size)
    (v : Value) (n : Nat) (xs : List Value) (hs : a.eval s = v) (hown : w.ownsRow base e size v n xs)
    (ad : Addr) (m c : Nat) (news : List Value) (hx : a.eval x = .slice (some ad) m c) (hl : news.length = m * size) (hnews : ∀ j u, news[j]? = some u → w.cell? (ad.add j) = some u) (h1 : ∀ u ∈ news, u.oneCell' = true)
    (h63 : n + m ≤ maxLen) (hbytes : (n + m) * bytes ≤ 140737488355328) (hbase : base ≤ w.heap.size)
    (h : ∀ v' w', w'.ownsRow base e size v' (n + m) (xs ++ news) → w.grownBy w' v.ownBlock → (v'.ownBlock = v.ownBlock ∨ w.grownBy w' none) → wpList P ops Q rest (a.put o.dst v') w') :
    wpList P ops Q (o :: rest) a w := by
  refine wpList_plain hgd fun K hK => ?_
  obtain ⟨v', w', hr, h2, h3, h4, h5⟩ := run_append_own_at (P := P) w base t o.type e i z size bytes ht hi hz hsize hby hzs hsz v n xs hown ad m c news hl hnews h1 h63 hbytes hbase
  have hkeep : v'.ownBlock = v.ownBlock ∨ w.grownBy w' none := by
    rcases h5 with h5 | h5
    · exact .inl h5
    · rcases hown.2 with ⟨rfl, rfl⟩ | ⟨g, cap, cur, rfl, hbg, hg, hnc, hcm, hcs, htake⟩
      · exact .inr h3
      · subst hsize
        subst hby
        by_cases hroom : n + m ≤ cap
        · have hfit : n * i.size + news.length ≤ cur.size := by rw [hl, hcs, ← Nat.add_mul]; exact Nat.mul_le_mul_right _ hroom
          have hr2 := run_append_room (P := P) w t o.type e i ht hi g n cap cur hg ad m c news hl hnews h1 hroom hfit
          rw [hr] at hr2
          injection hr2 with hv hw
          subst hv
          exact .inl rfl
        · have holds : ∀ j u, xs[j]? = some u → w.cell? ((⟨g, 0, none⟩ : Addr).add j) = some u := hown.cells (g := g) rfl
          have hr2 := run_append_grow (P := P) w t o.type e i z ht hi hz ⟨g, 0, none⟩ n cap xs hown.1 holds ad m c news hl hnews (by omega) (by simp only [maxLen] at h63; omega) (growslice_fits (by omega) hbytes)
          rw [hr] at hr2
          injection hr2 with hv hw
          subst hw
          exact .inr ⟨rfl, rfl, rfl, by simp, fun k hk _ => heap_alloc_old w.drew _ k hk⟩
  unfold Oper.wp execOp
  simp only [ho, resolve, invoke, builtin, Sem.run_bind, Sem.run_pure, Result.andThen_ok, List.map_toArray, List.map_cons, List.map_nil, hs, hx, hr]
  exact hK _ _ (h v' w' h2 h3 hkeep)

/-- The old slice behind such an append. -/
theorem keep_read {W w1 : World} {base : Nat} {A : Option Addr} {n c : Nat} {v1 : Value} {xs ys : List Int} (hC : Kd.C (Kd.int .u8) W A n xs) (ho : W.ownsRow base 5 1 (.slice A n c) n (nums .u8 xs)) (ho1 : w1.ownsRow base 5 1 v1 (xs ++ ys).length (nums .u8 (xs ++ ys)))
    (hk : v1.ownBlock = (Value.slice A n c).ownBlock ∨ W.grownBy w1 none) : Kd.C (Kd.int .u8) w1 A n xs := by
  have hn : xs.length = n := hC.1
  subst hn
  rcases hk with hk | hk
  · cases A with
    | none =>
      have h0 : xs = [] := by
        rcases Nat.eq_zero_or_pos xs.length with h | h
        · exact List.eq_nil_of_length_eq_zero h
        · obtain ⟨ad, e, _⟩ := hC.2.2 h
          cases e
      subst h0
      exact Kd.C_nil _ _
    | some ad =>
      obtain ⟨A1, c1, rfl, _, hC1⟩ := Kd.R_reads (Kd.R_of_own (h1 := fun _ => rfl) (enc := Value.int .u8) (ok := fun _ => True) ho1 (fun _ _ => trivial))
      have hC2 := Kd.C_take hC1 (m := xs.length) (by simp)
      rw [List.take_left] at hC2
      rcases ho.2 with ⟨h0, _⟩ | ⟨g, cap, cur, hv, _⟩
      · cases h0
      · injection hv with hv
        injection hv with hv
        subst hv
        rcases ho1.2 with ⟨h0, _⟩ | ⟨g1, cap1, cur1, hv1, _⟩
        · injection h0 with h0
          subst h0
          cases hk
        · injection hv1 with hv1
          subst hv1
          have : g1 = g := by simpa [Value.ownBlock] using hk
          subst this
          exact hC2
  · exact Kd.C_below hC ⟨hk.os, hk.tape, hk.output, hk.size, fun k hlt => hk.block k hlt (by simp)⟩

/-- A literal of bytes. -/
theorem lit_R (w : World) (xs : List Int) (h : xs.length ≤ maxLen) : Kd.R (Kd.int .u8) 5 (w.alloc (.cells (nums .u8 xs).toArray 5)) w.heap.size (fun _ => True) (.slice (some ⟨w.heap.size, 0, none⟩) xs.length xs.length) xs :=
  Kd.R_of_own (World.ownsRow_lit (size := 1) w (nums .u8 xs).toArray xs.length (Nat.le_refl _) h (by simp [nums])) (fun _ _ => trivial)
theorem lit_C (w : World) (xs : List Int) (h : xs.length ≤ maxLen) : Kd.C (Kd.int .u8) (w.alloc (.cells (nums .u8 xs).toArray 5)) (some ⟨w.heap.size, 0, none⟩) xs.length xs := by
  obtain ⟨A, c, e, _, hC⟩ := Kd.R_reads (lit_R w xs h)
  injection e with e1 e2 e3
  subst e1
  exact hC

theorem three_new (w : World) : ∀ j u, (nums .u8 [3, 0, 1])[j]? = some u → (w.alloc (.cells #[.int .u8 3, .int .u8 0, .int .u8 1] 5)).cell? ((⟨w.heap.size, 0, none⟩ : Addr).add j) = some u := by
  intro j u hj
  match j, hj with
  | 0, hj => simp [nums] at hj; subst hj; simp [Addr.add]
  | 1, hj => simp [nums] at hj; subst hj; simp [Addr.add]
  | 2, hj => simp [nums] at hj; subst hj; simp [Addr.add]

theorem scan_calls_n (A : Option Addr) (cap n : Nat) (b : List Int) (hn : b.length = n) (hb255 : ∀ x ∈ b, 0 ≤ x ∧ x ≤ 255) (hlen : b.length ≤ 1099511627776) (hcap : b.length ≤ cap) (w : World) (hC : Kd.C (Kd.int .u8) w A b.length b) :
    Calls Try.prog 60 #[.slice A n cap] w fun e w' => ∃ v, e = .returned (.tuple #[v, .int .i64 (endL (scanR (b.length + 1) 0 0 b))]) ∧ KL.R 27 w' w.heap.size (fun _ => True) v ((scanR (b.length + 1) 0 0 b).map Prod.fst) ∧ Below w.heap.size w w' := by
  subst hn
  exact scan_calls A cap b hb255 hlen hcap w hC

theorem wtr_grown {W W' : World} {B base : Nat} {l : List Int} {row : Option Nat} (h : Wtr W B base l) (hg : W.grownBy W' row) (hB : row ≠ some B) (hr : ∀ k, row = some k → k < base) : Wtr W' B base l := by
  obtain ⟨v, hv, ho⟩ := h
  refine ⟨v, (hg.block B hv.lt (fun e => hB e.symm)).trans hv, own_move ho (fun k hk => hg.block k (own_lt ho k hk) (fun e => ?_))⟩
  have h1 := hr k e.symm
  have h2 := own_base ho k hk
  omega

/-- A literal of one row. -/
theorem lit_L (w : World) (x : List Int) (hx : x.length ≤ maxLen) : KL.C ((w.alloc (.cells (nums .u8 x).toArray 5)).alloc (.cells #[.slice (some ⟨w.heap.size, 0, none⟩) x.length x.length] 27)) (some ⟨w.heap.size + 1, 0, none⟩) 1 [x] := by
  refine ⟨rfl, by decide, fun _ => ⟨_, rfl, fun j p hj => ?_⟩⟩
  match j, hj with
  | 0, hj =>
    simp only [List.getElem?_cons_zero, Option.some.injEq] at hj
    subst hj
    refine ⟨[.slice (some ⟨w.heap.size, 0, none⟩) x.length x.length], rfl, ⟨_, _, rfl, Nat.le_refl _, Kd.C_alloc (lit_C w x hx) _⟩, fun i u hi => ?_⟩
    match i, hi with
    | 0, hi =>
      simp only [List.getElem?_cons_zero, Option.some.injEq] at hi
      subst hi
      simp [Addr.add]

theorem core07 : coreL 0 [7] = [0, 1, 7] := by
  unfold coreL rawL
  rw [show zz 0 = 0 from rfl, vint_small 0 (by decide), show ([7] : List Int).length = 1 from rfl, vint_small 1 (by decide)]
  rfl
theorem frame07 : frameL 0 [7] = rawL [0, 1, 7] ++ vint (bytesN entryS [0, 1, 7]) := by unfold frameL; rw [core07]
theorem frame07_len : 4 < (frameL 0 [7]).length := by
  have := vint_pos (bytesN entryS [0, 1, 7])
  rw [frame07]
  unfold rawL
  rw [show ([0, 1, 7] : List Int).length = 3 from rfl, vint_small 3 (by decide)]
  simp only [List.length_append, List.length_cons, List.length_nil]
  omega
theorem frame_four (k : Int) (y : List Int) : 4 ≤ (frameL k y).length := by
  have h1 := vint_pos (bytesN entryS (coreL k y))
  have h2 := vint_pos (zz k)
  have h3 := vint_pos y.length
  have h4 := vint_pos (coreL k y).length
  simp only [frameL, rawL, List.length_append] at h1 h4 ⊢
  simp only [coreL, rawL, List.length_append] at h1 h4 ⊢
  omega
theorem scan07 : ∃ pre : List (List Int × Int), scanR ((frameL 0 [7] ++ [3, 0, 1]).length + 1) 0 0 (frameL 0 [7] ++ [3, 0, 1]) = pre ∧ pre.map Prod.fst = [[7]] ∧ (pre.getLast?.map Prod.snd).getD 0 = ((frameL 0 [7]).length : Int) := by
  have hfl := frameL_length 0 (by decide) [7] (by decide)
  have h := scanR_frames [[7]] ((frameL 0 [7] ++ [3, 0, 1]).length + 1) 0 0 (frameL 0 [7] ++ [3, 0, 1]) (by
    rw [framesL_cons, framesL_nil, List.append_nil, List.drop_zero, Nat.zero_add]
    show frameL 0 [7] ++ [3, 0, 1] = frameL 0 [7] ++ (frameL 0 [7] ++ [3, 0, 1]).drop (frameL 0 [7]).length
    rw [List.drop_left]) (by simp at hfl ⊢; omega) (by simp) (by simp) (Nat.zero_le _)
  obtain ⟨pre, h1, h2, h3⟩ := h
  refine ⟨_, rfl, ?_, ?_⟩
  all_goals
    rw [h1, scanR_bad, List.append_nil]
    first
    | exact h2
    | (rw [framesL_cons, framesL_nil, List.append_nil, Nat.zero_add] at h3; exact h3)
    | skip
  all_goals
    intro hp
    have h4 := hp.length_le
    have h5 := frame_four ((0 + [[7]].length : Nat) : Int) (recL ((frameL 0 [7] ++ [3, 0, 1]).drop (0 + (framesL 0 [[7]]).length)))
    rw [framesL_cons, framesL_nil, List.append_nil, Nat.zero_add] at h4 h5
    rw [Nat.zero_add] at h4 h5
    have e : (frameL ((0 : Nat) : Int) [7]).length = (frameL 0 [7]).length := rfl
    rw [e] at h4 h5
    rw [List.drop_left] at h4 h5
    simp only [List.length_cons, List.length_nil] at h4 h5
    omega

set_option maxRecDepth 100000 in
set_option maxHeartbeats 2000000 in
theorem lives_calls (w : World) : Calls Try.prog 40 #[] w fun e w' => e = .returned (.bool true) ∧ Below w.heap.size w w' := by
  have hfl := frameL_length 0 (by decide) [7] (by decide)
  simp only [List.length_cons, List.length_nil] at hfl
  have hf4 := frame07_len
  obtain ⟨pre, hs1, hs2, hs3⟩ := scan07
  have hf07 := frame07
  have hfb := frameL_byte 0 [7] (by simp)
  have hF := fun w => Frame.frame_calls 0 (by decide) (some ⟨w.heap.size, 0, none⟩) 1 [7] (by simp) (by decide) (w.alloc (.cells #[.int .u8 7] 5)) (lit_C w [7] (by decide))
  generalize frameL 0 [7] = fr at hfl hf4 hs1 hs2 hs3 hf07 hF hfb
  have HF := Lib.hid hF
  have HS1 := Lib.hid hs1
  have HS2 := Lib.hid hs2
  have HS3 := Lib.hid hs3
  have H07 := Lib.hid hf07
  clear hF hs1 hs2 hs3 hf07
  go_enter Try.func40, Try.ntmps40
  go_wp2_with fail
  refine (HF.out w).mono ?_
  rintro e w1 ⟨v1, rfl, hR1, hB1⟩
  have hB1 : Below w.heap.size w w1 := ((Below.refl _ w).alloc (Nat.le_refl _) _).trans (hB1.mono (by simp))
  obtain ⟨Af, cf, rfl, hcf, hCf⟩ := Kd.R_reads hR1
  have ho1 : w1.ownsRow w.heap.size 5 1 (.slice Af fr.length cf) fr.length (nums .u8 fr) := own_weaken (Kd.own_of_R hR1) (by simp)
  clear hCf hR1
  have hb0 : Below w.heap.size w (w1.alloc (.cells #[.slice none 0 0] 98)) := hB1.alloc hB1.size _
  have hbx := Boxed.new w1 98 (.slice none 0 0)
  have hs2 : (w1.alloc (.cells #[.slice none 0 0] 98)).heap.size = w1.heap.size + 1 := by simp
  have ho2 := ho1.alloc (.cells #[.slice none 0 0] 98)
  have hfl1 : ∀ k, (Value.slice Af fr.length cf).ownBlock = some k → k < w1.heap.size := own_lt ho1
  clear ho1
  go_wp2_with fail
  generalize (w1.alloc (.cells #[.slice none 0 0] 98)) = W2 at hb0 hbx ho2 hs2 ⊢
  have hbx2 : Boxed (W2.alloc (.cells #[.int .u8 0, .int .u8 1, .int .u8 7] 5)) w1.heap.size 98 (.slice none 0 0) := hbx.alloc _
  have ho3 := ho2.alloc (.cells #[.int .u8 0, .int .u8 1, .int .u8 7] 5)
  have hb3 : Below w.heap.size w (W2.alloc (.cells #[.int .u8 0, .int .u8 1, .int .u8 7] 5)) := hb0.alloc hb0.size _
  have hc3 := lit_C W2 [0, 1, 7] (by decide)
  have hs3 : (W2.alloc (.cells #[.int .u8 0, .int .u8 1, .int .u8 7] 5)).heap.size = W2.heap.size + 1 := by simp
  rw [hs2] at hc3
  clear ho2 hbx
  refine (Wire.raw_calls w1.heap.size (W2.heap.size + 1) [] _ 3 [0, 1, 7] (by decide) _ (Wtr.nil hbx2) (by omega) hc3 (by decide)).mono ?_
  rintro e W4 ⟨rfl, hw4, hk4⟩
  have hb4 : Below w.heap.size w W4 := hb3.trans (hk4.below (by have := hb3.size; omega) hB1.size)
  have ho4 : W4.ownsRow w.heap.size 5 1 (.slice Af fr.length cf) fr.length (nums .u8 fr) := own_move ho3 (fun k hk => hk4.block k (by have := hfl1 k hk; omega) (by have := hfl1 k hk; omega))
  rw [List.nil_append] at hw4
  have hk0 := hk4.size
  clear hk4 hc3 hbx2 ho3
  go_wp2_with fail
  have hc5 : Kd.C (Kd.int .u8) (W4.alloc (.cells #[.int .u8 0, .int .u8 1, .int .u8 7] 5)) (some ⟨W4.heap.size, 0, none⟩) 3 [0, 1, 7] := lit_C W4 [0, 1, 7] (by decide)
  have hb5 : Below w.heap.size w (W4.alloc (.cells #[.int .u8 0, .int .u8 1, .int .u8 7] 5)) := hb4.alloc hb4.size _
  have ho5 := ho4.alloc (.cells #[.int .u8 0, .int .u8 1, .int .u8 7] 5)
  have hw5 := hw4.below ((Below.refl _ W4).alloc (Nat.le_refl _) (.cells #[.int .u8 0, .int .u8 1, .int .u8 7] 5))
  have hs5 : (W4.alloc (.cells #[.int .u8 0, .int .u8 1, .int .u8 7] 5)).heap.size = W4.heap.size + 1 := by simp
  clear ho4 hw4
  refine (Hash.bytes_calls entryS (by decide) _ 3 [0, 1, 7] (by decide) (by decide) (W4.alloc (.cells #[.int .u8 0, .int .u8 1, .int .u8 7] 5)) hc5).mono ?_
  rintro e W6 ⟨rfl, hb6⟩
  rw [bytesN_eq entryS [0, 1, 7]]
  have hb6' : Below w.heap.size w W6 := hb5.trans (hb6.mono hb5.size)
  have ho6 := pw_own_below ho5 hb6
  have hw6 := hw5.below hb6
  have hsz6 := hb6.size
  clear hc5 ho5 hw5 hb6
  go_wp2_with fail
  refine (Wire.uint_calls w1.heap.size (W2.heap.size + 1) _ _ (bytesN_lt entryS [0, 1, 7]) W6 hw6 (by omega) (by have := rawL_length [0, 1, 7] (by decide); simp only [List.length_cons, List.length_nil] at this; omega)).mono ?_
  rintro e W7 ⟨rfl, hw7, hk7⟩
  have hb7 : Below w.heap.size w W7 := hb6'.trans (hk7.below (by have := hb3.size; omega) hB1.size)
  have ho7 : W7.ownsRow w.heap.size 5 1 (.slice Af fr.length cf) fr.length (nums .u8 fr) := own_move ho6 (fun k hk => hk7.block k (by have := hfl1 k hk; omega) (by have := hfl1 k hk; omega))
  rw [← H07.out] at hw7
  have hsz7 := hk7.size
  clear hk7 ho6 hw6
  obtain ⟨i0, hi, hz0, hz1, hz2⟩ := info_parts info8
  have ho8 := ho7.alloc (.cells #[.int .u8 3, .int .u8 0, .int .u8 1] 5)
  have hc8 := lit_C W7 [3, 0, 1] (by decide)
  have hb8 : Below w.heap.size w (W7.alloc (.cells #[.int .u8 3, .int .u8 0, .int .u8 1] 5)) := hb7.alloc hb7.size _
  have hw8 := hw7.below ((Below.refl _ W7).alloc (Nat.le_refl _) (.cells #[.int .u8 3, .int .u8 0, .int .u8 1] 5))
  have hs8 : (W7.alloc (.cells #[.int .u8 3, .int .u8 0, .int .u8 1] 5)).heap.size = W7.heap.size + 1 := by simp
  have hfc : Kd.C (Kd.int .u8) (W7.alloc (.cells #[.int .u8 3, .int .u8 0, .int .u8 1] 5)) Af fr.length fr := by
    obtain ⟨A, c, e, _, h⟩ := Kd.R_reads (Kd.R_of_own (h1 := fun _ => rfl) (enc := Value.int .u8) (ok := fun _ => True) ho8 (fun _ _ => trivial))
    injection e with e1
    subst e1
    exact h
  clear ho7 hw7
  go_wp2_with (first
    | (at_builtin; refine append_keep _ rfl (.tmp 16) (.tmp 17) 27 rfl w.heap.size 5 i0 (.int .u8 0) 1 1 Try.underlying27 hi hz0 hz1 hz2 rfl (by decide) (.slice Af fr.length cf) fr.length (nums .u8 fr) rfl ho8 ⟨W7.heap.size, 0, none⟩ 3 3 (nums .u8 [3, 0, 1]) rfl rfl (three_new W7) (by simp [nums, Value.oneCell']) (by unfold maxLen; omega) (by omega) hb8.size ?_; intro v9 w9 ho9 hg9 hk9; have ho9' : w9.ownsRow w.heap.size 5 1 v9 (fr ++ [3, 0, 1]).length (nums .u8 (fr ++ [3, 0, 1])) := (by rw [List.length_append, nums_append]; exact ho9); obtain ⟨A9, c9, rfl, hc9, hC9⟩ := Kd.R_reads (Kd.R_of_own (h1 := fun _ => rfl) (enc := Value.int .u8) (ok := fun _ => True) ho9' (fun _ _ => trivial)); rw [List.length_append, show ([3, 0, 1] : List Int).length = 3 from rfl] at hc9 hC9))
  have hb9 : Below w.heap.size w w9 := hb8.grown hg9 hb8.size (own_base ho8)
  have hw9 := wtr_grown hw8 hg9 (fun e => by have := hfl1 _ e; omega) (fun k e => by have := hfl1 k e; omega)
  have hf9 : Kd.C (Kd.int .u8) w9 Af fr.length fr := keep_read hfc ho8 ho9' hk9
  clear hw8 hfc ho8 ho9 ho9' hk9 hg9
  have HW9 := Lib.hid hw9
  have HF9 := Lib.hid hf9
  clear hw9 hf9
  have hl3 : (fr ++ [3, 0, 1]).length = fr.length + 3 := by simp
  refine (scan_calls_n A9 c9 (fr.length + 3) (fr ++ [3, 0, 1]) hl3 (bytes_append hfb (by decide)) (by omega) (by omega) w9 (by rw [hl3]; exact hC9)).mono ?_
  rintro e w10 ⟨v10, rfl, hR10, hb10⟩
  rw [HS1.out, show endL pre = (fr.length : Int) from HS3.out] at *
  rw [HS2.out] at hR10
  have hb10' : Below w.heap.size w w10 := hb9.trans (hb10.mono hb9.size)
  obtain ⟨Al, cl, rfl, hcl, hCl⟩ := Kd.R_reads hR10
  have HCL := Lib.hid hCl
  have HW10 := Lib.hid (HW9.out.below hb10)
  have HF10 := Lib.hid (Kd.C_below HF9.out hb10)
  clear hC9 hCl hR10 hb10
  have hq1 : ((fr.length : Int) == (fr.length : Int)) = true := by simp
  go_wp2_with fail
  refine (done_calls w1.heap.size (W2.heap.size + 1) fr w10 HW10.out (by omega)).mono ?_
  rintro e w11 ⟨v11, rfl, hR11, hb11⟩
  obtain ⟨Ad, cd, rfl, _, hCd⟩ := Kd.R_reads hR11
  have hb11' : Below w.heap.size w w11 := hb10'.trans (hb11.mono hb10'.size)
  have HCd := Lib.hid hCd
  have HCL11 := Lib.hid (Kd.C_below HCL.out hb11)
  have HF11 := Lib.hid (Kd.C_below HF10.out hb11)
  clear hCd hR11 hb11
  have HSB := Lib.hid (sameBytes_calls Af Ad cf cd fr fr (by omega) w11 HF11.out HCd.out)
  rw [decide_eq_true rfl] at HSB
  go_wp2_with fail
  refine HSB.out.mono ?_
  rintro e w12 ⟨rfl, m, rfl⟩
  have hb12 : Below w.heap.size w (w11.drewN m) := pw_below_drewN hb11' m
  have HCL12 := Lib.hid (Kd.C_below HCL11.out (below_of_drawn m))
  generalize w11.drewN m = W12 at hb12 HCL12 ⊢
  go_wp2_with fail
  have hb13 : Below w.heap.size w ((W12.alloc (.cells #[.int .u8 7] 5)).alloc (.cells #[.slice (some ⟨W12.heap.size, 0, none⟩) 1 1] 27)) := (hb12.alloc hb12.size _).alloc (by have := hb12.size; simp; omega) _
  have hl13 : KL.C ((W12.alloc (.cells #[.int .u8 7] 5)).alloc (.cells #[.slice (some ⟨W12.heap.size, 0, none⟩) 1 1] 27)) (some ⟨W12.heap.size + 1, 0, none⟩) 1 [[7]] := lit_L W12 [7] (by decide)
  have hc13 := Kd.C_alloc (Kd.C_alloc HCL12.out (.cells #[.int .u8 7] 5)) (.cells #[.slice (some ⟨W12.heap.size, 0, none⟩) 1 1] 27)
  refine (sameLists_calls Al (some ⟨W12.heap.size + 1, 0, none⟩) cl 1 [[7]] [[7]] (by decide) (by decide) _ hc13 hl13).mono ?_
  rintro e W14 ⟨rfl, hb14⟩
  rw [decide_eq_true rfl]
  go_wp2
  go_ret
  exact ⟨rfl, hb13.trans (hb14.mono hb13.size)⟩

end Go.Proofs.Ytjnbbmiccbjjbaa.Lives7
