/- Package disk: New, Append, Truncate. -/
import Derived.Test.YtjnbbmiccbjjbaaDisk
namespace Go.Proofs.Ytjnbbmiccbjjbaa.Disk
open Go.RowKit Go.Proofs Go.Proofs.Ytjnbbmiccbjjbaa.Ma Go.Proofs.Ytjnbbmiccbjjbaa.Wire Go.Proofs.Ytjnbbmiccbjjbaa.Rdr Go.Proofs.Ytjnbbmiccbjjbaa.MapI Go.Proofs.YtjnbbmiccbjjbaaW.PrintWords Go.Proofs.YtjnbbmiccbjjbaaW.PrintLast

/-- What a disk's method leaves: the disk d', whose blocks are the old ones and new ones; all else is as it was. -/
def DkS (D : Nat → Prop) (B : Nat) (w : World) (d : Dsk) (w' : World) : Prop := ∃ D', Dk w' D' B d ∧ (∀ k, D k → D' k) ∧ (∀ k, D' k → D k ∨ w.heap.size ≤ k) ∧ KD D w w'
theorem KD.less {D D' : Nat → Prop} {w W W' : World} (h : KD D w W) (k : KD D' W W') (hD : ∀ i, D' i → D i ∨ w.heap.size ≤ i) : KD D w W' :=
  ⟨k.os.trans h.os, k.tape.trans h.tape, k.output.trans h.output, Nat.le_trans h.size k.size, fun i hi hn => (k.block i (Nat.lt_of_lt_of_le hi h.size) (fun e => (hD i e).elim hn (fun e => by omega))).trans (h.block i hi hn), fun i cells e => (k.bytes i cells ((h.bytes i cells e).trans e)).trans (h.bytes i cells e)⟩
theorem KD.refl (D : Nat → Prop) (w : World) : KD D w w := ⟨rfl, rfl, rfl, Nat.le_refl _, fun _ _ _ => rfl, fun _ _ _ => rfl⟩
theorem DkS.of {D : Nat → Prop} {B : Nat} {w w' : World} {d : Dsk} (h : Dk w' D B d) (k : KD D w w') : DkS D B w d w' := ⟨D, h, fun _ h => h, fun _ h => .inl h, k⟩
theorem Dk.heap {W W' : World} {D : Nat → Prop} {B : Nat} {d : Dsk} (h : Dk W D B d) (e : W'.heap = W.heap) : Dk W' D B d := by
  obtain ⟨bm, m, h0, hm, hf, hD1, hD2, hD3⟩ := h
  exact ⟨bm, m, by rw [e]; exact h0, hm.same (by rw [e]), hf.same (fun _ h => h) (fun k _ _ _ => by rw [e]), hD1, hD2, fun k hk => by rw [e]; exact hD3 k hk⟩

theorem Dk.drew {W : World} {D : Nat → Prop} {B : Nat} {d : Dsk} (h : Dk W D B d) : Dk W.drew D B d := h.heap rfl

/-- A store to a block that is none of the disk's. -/
theorem Dk.out {W : World} {D : Nat → Prop} {B g j : Nat} {d : Dsk} (h : Dk W D B d) (hg : ¬ D g) (u : Value) : Dk (W.setCell ⟨g, j, none⟩ u) D B d := by
  obtain ⟨bm, m, h0, hm, hf, hD1, hD2, hD3⟩ := h
  have hb : ∀ k, D k → (W.setCell ⟨g, j, none⟩ u).heap[k]? = W.heap[k]? := fun k hk => Below.heap_setCell W ⟨g, j, none⟩ u k (fun e => hg (by rw [← show k = g from e]; exact hk))
  exact ⟨bm, m, (hb B hD1).trans h0, hm.same (hb bm hD2), hf.same (fun _ h => h) (fun k hk _ _ => hb k hk), hD1, hD2, fun k hk => Nat.lt_of_lt_of_le (hD3 k hk) ((kx_set g 0 j W u).size)⟩

/-- What Append does. -/
def appendD (d : Dsk) (n : Int) (bs : List Int) : Int × Dsk :=
  if ¬ (0 ≤ n ∧ n < 64) then (1, d) else if d.off = true then (24, d) else if d.room - (usedL d.fs : Int) < bs.length then (23, d)
  else (if (stepD { d with fs := setF d.fs n ⟨(fileAt d.fs n).b ++ bs, (fileAt d.fs n).dur⟩ }).1 = true then 0 else 24, (stepD { d with fs := setF d.fs n ⟨(fileAt d.fs n).b ++ bs, (fileAt d.fs n).dur⟩ }).2)

theorem fileAt_used (fs : List (Int × Fl)) (n : Int) : (fileAt fs n).b.length ≤ usedL fs := by
  unfold fileAt usedL
  induction fs with
  | nil => exact Nat.le_refl _
  | cons p fs ih =>
    rw [List.find?_cons, List.map_cons, List.sum_cons]
    split
    · exact Nat.le_add_right _ _
    · exact Nat.le_trans ih (Nat.le_add_left _ _)

set_option maxRecDepth 100000 in
set_option maxHeartbeats 4000000 in
theorem append_calls (D : Nat → Prop) (B : Nat) (d : Dsk) (n : Int) (hn : -9223372036854775808 ≤ n ∧ n ≤ 9223372036854775807) (hl : d.armed = true → 0 ≤ d.left ∧ d.left ≤ 9223372036854775807)
    (hroom : 0 ≤ d.room ∧ d.room ≤ 16777216) (hU : usedL d.fs ≤ 16777216) (A : Option Addr) (c : Nat) (bs : List Int) (hbl : bs.length ≤ 70368744177664) (w : World) (h : Dk w D B d) (hC : Kd.C (Kd.int .u8) w A bs.length bs) :
    Calls Try.prog 16 #[.pointer (some ⟨B, 0, none⟩), .int .i64 n, .slice A bs.length c] w fun e w' => e = .returned (.int .i64 (appendD d n bs).1) ∧ DkS D B w (appendD d n bs).2 w' := by
  have _ := hbl
  have H := Lib.hid h
  obtain ⟨bm, m, h0, hm, hf, hD1, hD2, hD3⟩ := h
  have hlB := lt_of h0
  have c1 := cell_of h0 1
  have c2 := cell_of h0 2
  unfold appendD
  by_cases hr : 0 ≤ n ∧ n < 64
  · rw [if_neg (fun h => h hr)]
    have HE := Lib.hid (exists_calls n w)
    rw [decide_eq_true hr] at HE
    by_cases ho : d.off = true
    · rw [if_pos ho]
      rw [ho] at c2
      clear hr
      go_enter Try.func16, Try.ntmps16
      go_wp2_with fail
      refine HE.out.mono ?_
      rintro e w1 ⟨rfl, rfl⟩
      go_wp2
      go_ret
      exact ⟨rfl, DkS.of H.out (KD.refl _ _)⟩
    · rw [if_neg ho]
      have ho' : d.off = false := by simpa using ho
      rw [ho'] at c2
      have HU := Lib.hid (fun (W : World) (h : Dk W D B d) => used_calls D B d (by omega) W h)
      have HC := Lib.hid hC
      have H0 := Lib.hid h0
      have HM := Lib.hid hm
      have HF := Lib.hid hf
      have hwr : IntKind.i64.wrap (d.room - (usedL d.fs : Int)) = d.room - (usedL d.fs : Int) := IntWalk.i64_in _ (by omega)
      by_cases hfull : d.room - (usedL d.fs : Int) < bs.length
      · rw [if_pos hfull]
        clear hr ho hm hf hC h0
        go_enter Try.func16, Try.ntmps16
        go_wp2_with fail
        refine HE.out.mono ?_
        rintro e w1 ⟨rfl, rfl⟩
        go_wp2
        go_region_with ((go_at_call 23; refine (HU.out _ H.out.drew).mono ?_; rintro e w2 ⟨rfl, hB2⟩; have k1 := cell_of ((hB2.block B hlB).trans H0.out) 1; have hB2 := Lib.hid hB2))
        all_goals
          go_wp2
          go_ret
          exact ⟨rfl, DkS.of (H.out.grow ((below_drew (Below.refl _ _)).trans hB2.out)) (KD.of_below ((below_drew (Below.refl _ _)).trans hB2.out))⟩
      · rw [if_neg hfull]
        obtain ⟨Af, cf, hv, hlc, hrow⟩ := hf.look n
        have hfu := fileAt_used d.fs n
        generalize fileAt d.fs n = f at hv hlc hrow hfu ⊢
        have HCF := Lib.hid (hrow.c (by omega))
        have HST := Lib.hid (fun (D' : Nat → Prop) (W : World) (h : Dk W D' B { d with fs := setF d.fs n ⟨f.b ++ bs, f.dur⟩ }) => step_calls D' B { d with fs := setF d.fs n ⟨f.b ++ bs, f.dur⟩ } hl W h)
        have HSET := Lib.hid (fun (D' : Nat → Prop) (A4 : Option Addr) (c4 : Nat) (hc : (f.b ++ bs).length ≤ c4) (W : World) (h : Dk W D' B d) (hr : Row8 W D' A4 (f.b ++ bs)) => set_calls D' B d n hn A4 c4 ⟨f.b ++ bs, f.dur⟩ hc W h hr)
        generalize ({ d with fs := setF d.fs n ⟨f.b ++ bs, f.dur⟩ } : Dsk) = d1 at HST HSET ⊢
        generalize stepD d1 = r at HST ⊢
        obtain ⟨ok, d2⟩ := r
        simp only at HST HSET ⊢
        have HV := Lib.hid hv
        have hflen : (f.b ++ bs).length = f.b.length + bs.length := List.length_append
        generalize hT : f.b ++ bs = T at HSET hflen
        have HT := Lib.hid hT
        have HFL := Lib.hid hflen
        have hTl : T.length ≤ 70368761000000 := by omega
        clear hr ho hm hf hC h0 hv hrow hT hflen
        cases ok
        all_goals
          go_enter Try.func16, Try.ntmps16
          go_wp2_with fail
          refine HE.out.mono ?_
          rintro e w1 ⟨rfl, rfl⟩
          go_wp2
          go_region_with ((go_at_call 23; refine (HU.out _ H.out.drew).mono ?_; rintro e w2 ⟨rfl, hB2⟩; have k0 := cell_of ((hB2.block B hlB).trans H0.out) 0; have k1 := cell_of ((hB2.block B hlB).trans H0.out) 1; have hB2 := Lib.hid ((below_drew (Below.refl _ _)).trans hB2)))
          all_goals
            have hlook := look_run (P := Try.prog) Try.underlying74 Try.underlying3 (HM.out.below hB2.out) (zero_file w2) n hn
            rw [HV.out] at hlook
            go_wp2_with fail
            refine (clone_calls Af cf f.b _ (Kd.C_alloc (Kd.C_below HCF.out hB2.out) _) (by omega)).mono ?_
            rintro e w3 ⟨v3, rfl, hR3, hB3⟩
            have hBA : Below w.heap.size w (w2.alloc (.cells #[.slice Af f.b.length cf, .int .i64 f.dur] 79)) := hB2.out.alloc hB2.out.size _
            have hBw3 : Below w.heap.size w w3 := hBA.trans (hB3.mono hBA.size)
            have HBA := Lib.hid hBA
            have HB3 := Lib.hid hB3
            have HR3 := Lib.hid hR3
            have HCb := Lib.hid (Kd.C_below HC.out hBw3)
            have hFB : w.heap.size ≤ w2.heap.size := hB2.out.size
            clear hBA hB3 hR3 hBw3 hlook
            go_wp2_with (at_builtin; refine Kd.R_append_rows (Kd.int .u8) (Rr := (Kd.int .u8).K w3) (w0 := (w2.alloc (.cells #[.slice Af f.b.length cf, .int .i64 f.dur] 79))) (w2.alloc (.cells #[.slice Af f.b.length cf, .int .i64 f.dur] 79)).heap.size rfl (.tmp 36) (.tmp 37) 27 5 (.int .u8 0) 1 rfl Try.underlying27 info8 rfl (by decide) (by decide) v3 f.b bs A bs.length c (fun _ => True) (fun _ => False) rfl rfl HR3.out HCb.out (fun _ _ h => h) (fun _ h => h.elim) (fun _ _ => trivial) HB3.out HB3.out.size (by omega) ?_; intro v4 w4 hR4 hB4 _ _; rw [HT.out] at hR4; obtain ⟨A4, c4, rfl, hcc4, _⟩ := Kd.R_reads hR4; have hF4 := (hB4.block w2.heap.size (by simp)).trans (World.alloc_heap_new w2 _); have f40 := cell_of hF4 0; have fz0 := frozen_of hF4 0; have s5 := heap_set hF4 0 (.slice A4 T.length c4); have k50 := cell_of s5 0; have k51 := cell_of s5 1; have HR4 := Lib.hid hR4; have HB4 := Lib.hid hB4; have HF4 := Lib.hid hF4; clear hR4 hB4 hF4 s5)
            have hBw4 : Below w.heap.size w w4 := HBA.out.trans (HB4.out.mono HBA.out.size)
            have hRlt := Kd.R_lt HR4.out
            have hRb := Kd.R_base HR4.out
            have hRne := Kd.R_ne HR4.out HF4.out (by decide)
            have hD' : ∀ k, D k ∨ (Value.slice A4 T.length c4).ownBlock = some k → D k ∨ w.heap.size ≤ k := fun k hk => hk.imp id (fun e => by have := hRb k e; rw [World.size_alloc] at this; omega)
            have hnF : ¬ (D w2.heap.size ∨ (Value.slice A4 T.length c4).ownBlock = some w2.heap.size) := fun hk => hk.elim (fun e => by have := H.out; obtain ⟨_, _, _, _, _, _, _, h3⟩ := this; have := h3 _ e; omega) (fun e => hRne e.symm)
            have hDk4 : Dk w4 (fun k => D k ∨ (Value.slice A4 T.length c4).ownBlock = some k) B d := (H.out.grow hBw4).more (fun _ h => .inl h) (fun k hk => hk.elim (fun e => by obtain ⟨_, _, _, _, _, _, _, h3⟩ := H.out; have := h3 _ e; have := hBw4.size; omega) (fun e => hRlt k e))
            have hrow4 : Row8 w4 (fun k => D k ∨ (Value.slice A4 T.length c4).ownBlock = some k) A4 T := row8_of_own (Kd.own_of_R HR4.out) (fun k hk => .inr hk)
            have hrow5 : Row8 (w4.setCell ⟨w2.heap.size, 0, none⟩ (.slice A4 T.length c4)) (fun k => D k ∨ (Value.slice A4 T.length c4).ownBlock = some k) A4 T := hrow4.same (fun _ h => h) (fun k hk _ _ => Below.heap_setCell w4 ⟨w2.heap.size, 0, none⟩ _ k (fun e => hnF (by rw [← show k = w2.heap.size from e]; exact hk)))
            have hB5 : Below w.heap.size w (w4.setCell ⟨w2.heap.size, 0, none⟩ (.slice A4 T.length c4)) := hBw4.setCell hFB _
            have hDk5 := hDk4.out (j := 0) hnF (.slice A4 T.length c4)
            refine (HSET.out _ A4 c4 hcc4 _ hDk5 hrow5).mono ?_
            rintro e w6 ⟨rfl, hd6, hk6⟩
            have hDB := hD' B
            have HB5 := Lib.hid hB5
            have HD' := Lib.hid hD'
            have HK6 := Lib.hid hk6
            clear hBw4 hRlt hRb hRne hD' hnF hDk4 hrow4 hrow5 hB5 hDk5 hk6 hDB
            go_wp2_with fail
            have HN6 := Lib.hid hd6.noU8
            refine (HST.out _ _ hd6).mono ?_
            rintro e w7 ⟨rfl, hd7, hk7⟩
            have HK7 := Lib.hid hk7
            have HD7 := Lib.hid hd7
            clear hk7 hd6 hd7
            go_wp2
            go_ret
            exact ⟨rfl, _, HD7.out, fun _ h => .inl h, HD'.out, (KD.of_below HB5.out).less (HK6.out.trans (KD.of_kx (HK7.out _) (.inl hD1) HN6.out)) HD'.out⟩
  · rw [if_pos hr]
    have HE := Lib.hid (exists_calls n w)
    rw [decide_eq_false hr] at HE
    clear hr
    go_enter Try.func16, Try.ntmps16
    go_wp2_with fail
    refine HE.out.mono ?_
    rintro e w1 ⟨rfl, rfl⟩
    go_wp2
    go_ret
    exact ⟨rfl, DkS.of H.out (KD.refl _ _)⟩

end Go.Proofs.Ytjnbbmiccbjjbaa.Disk
