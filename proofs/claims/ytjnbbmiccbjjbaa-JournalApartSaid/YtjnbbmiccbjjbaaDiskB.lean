/- Package disk: New, Truncate. -/
import Derived.Test.YtjnbbmiccbjjbaaDiskA
import Derived.Test.YtjnbbmiccbjjbaaCut
import Derived.StillTailTactics
namespace Go.Proofs.Ytjnbbmiccbjjbaa.Disk
open Go.RowKit Go.Proofs Go.Proofs.Ytjnbbmiccbjjbaa.Ma Go.Proofs.Ytjnbbmiccbjjbaa.Wire Go.Proofs.Ytjnbbmiccbjjbaa.Rdr Go.Proofs.Ytjnbbmiccbjjbaa.MapI Go.Proofs.YtjnbbmiccbjjbaaW.PrintWords Go.Proofs.YtjnbbmiccbjjbaaW.PrintLast

/-- A new disk. -/
def newDsk (room : Int) : Dsk := ⟨[], room, false, false, 0⟩

set_option maxRecDepth 100000 in
set_option maxHeartbeats 2000000 in
theorem new_bad (room : Int) (hr : room < 0 ∨ 16777216 < room) (w : World) :
    Calls Try.prog 13 #[.int .i64 room] w fun e w' => e = .returned (.tuple #[.pointer none, .int .i64 1]) ∧ w = w' := by
  by_cases h1 : room < 0
  · go_enter Try.func13, Try.ntmps13
    go_wp2
    go_ret2
    exact ⟨rfl, rfl⟩
  · have h2 : 16777216 < room := by omega
    clear hr
    go_enter Try.func13, Try.ntmps13
    go_wp2
    go_ret2
    exact ⟨rfl, rfl⟩

set_option maxRecDepth 100000 in
set_option maxHeartbeats 2000000 in
theorem new_calls (room : Int) (h1 : ¬ room < 0) (h2 : ¬ 16777216 < room) (w : World) :
    Calls Try.prog 13 #[.int .i64 room] w fun e w' => ∃ B D, e = .returned (.tuple #[.pointer (some ⟨B, 0, none⟩), .int .i64 0]) ∧ Dk w' D B (newDsk room) ∧ (∀ k, D k → w.heap.size ≤ k) ∧ Below w.heap.size w w' := by
  have hmm := @run_makeMap Try.prog
  go_enter Try.func13, Try.ntmps13
  go_wp2
  go_ret2
  have hB : Below w.heap.size w ((w.alloc (.map #[] 0)).alloc (.cells #[.map (some w.heap.size), .int .i64 room, .bool false, .bool false, .int .i64 0] 76)) := (((Below.refl _ w).alloc (Nat.le_refl _) _).alloc (by simp) _)
  refine ⟨w.heap.size + 1, rfl, fun k => w.heap.size ≤ k ∧ k ≤ w.heap.size + 1, ⟨w.heap.size, [], ?_, ?_, trivial, ⟨by omega, by omega⟩, ⟨by omega, by omega⟩, ?_⟩, fun k hk => hk.1, hB⟩
  · have := World.alloc_heap_new (w.alloc (.map #[] 0)) (.cells #[.map (some w.heap.size), .int .i64 room, .bool false, .bool false, .int .i64 0] 76)
    rwa [World.size_alloc] at this
  · exact (IM.made w).same (heap_alloc_old _ _ _ (by simp))
  · rintro k ⟨_, hk⟩
    simp only [World.size_alloc]
    omega

theorem set_calls_n (D : Nat → Prop) (B : Nat) (d : Dsk) (k : Int) (hk : -9223372036854775808 ≤ k ∧ k ≤ 9223372036854775807) (A : Option Addr) (c l : Nat) (f : Fl) (hf : f.b.length = l) (hc : l ≤ c) (w : World) (h : Dk w D B d) (hr : Row8 w D A f.b) :
    Calls Try.prog 45 #[.pointer (some ⟨B, 0, none⟩), .int .i64 k, .agg #[.slice A l c, .int .i64 f.dur]] w fun e w' => e = .returned (.tuple #[]) ∧ Dk w' D B { d with fs := setF d.fs k f } ∧ KD D w w' := by
  subst hf
  exact set_calls D B d k hk A c f hc w h hr

/-- What Truncate does. -/
def truncD (d : Dsk) (n size : Int) : Int × Dsk :=
  if ¬ (0 ≤ n ∧ n < 64) ∨ size < 0 ∨ ((fileAt d.fs n).b.length : Int) < size then (1, d)
  else if d.off = true then (24, d)
  else if (stepD d).1 = true then (0, { (stepD d).2 with fs := setF (stepD d).2.fs n ⟨(fileAt d.fs n).b.take size.toNat, if size < (fileAt d.fs n).dur then size else (fileAt d.fs n).dur⟩ })
  else (24, (stepD d).2)

theorem stepD_fs (d : Dsk) : (stepD d).2.fs = d.fs := by
  unfold stepD
  split
  · rfl
  · split <;> rfl

set_option maxRecDepth 100000 in
set_option maxHeartbeats 4000000 in
theorem trunc_calls (D : Nat → Prop) (B : Nat) (d : Dsk) (n : Int) (hn : -9223372036854775808 ≤ n ∧ n ≤ 9223372036854775807) (size : Int) (hl : d.armed = true → 0 ≤ d.left ∧ d.left ≤ 9223372036854775807)
    (hb : (fileAt d.fs n).b.length ≤ 140737488355328) (w : World) (h : Dk w D B d) :
    Calls Try.prog 22 #[.pointer (some ⟨B, 0, none⟩), .int .i64 n, .int .i64 size] w fun e w' => e = .returned (.int .i64 (truncD d n size).1) ∧ Dk w' D B (truncD d n size).2 ∧ KD D w w' := by
  have H := Lib.hid h
  obtain ⟨bm, m, h0, hm, hf, hD1, hD2, hD3⟩ := h
  have hlB := lt_of h0
  have c0 := cell_of h0 0
  obtain ⟨Af, cf, hv, hlc, hrow⟩ := hf.look n
  have hlook := look_run (P := Try.prog) Try.underlying74 Try.underlying3 hm (zero_file w) n hn
  rw [hv] at hlook
  have hoff := fun (W : World) (hb : Below w.heap.size w W) => cell_of ((hb.block B hlB).trans h0) 2
  have HROW := Lib.hid hrow
  have HST := Lib.hid (fun (W : World) (h : Dk W D B d) => step_calls D B d hl W h)
  have hfs := stepD_fs d
  unfold truncD
  generalize fileAt d.fs n = f at hb hlook hlc HROW ⊢
  have HOFF := Lib.hid hoff
  clear hm hf hv hoff h0 hrow
  by_cases hr : 0 ≤ n ∧ n < 64
  · have HE := Lib.hid (exists_calls n)
    rw [decide_eq_true hr] at HE
    by_cases hs0 : size < 0
    · rw [if_pos (.inr (.inl hs0))]
      clear hr
      go_enter Try.func22, Try.ntmps22
      go_wp2_with fail
      refine (HE.out _).mono ?_
      rintro e w1 ⟨rfl, rfl⟩
      go_wp2
      go_ret
      exact ⟨rfl, (H.out.grow ((Below.refl _ _).alloc (Nat.le_refl _) _)), (KD.of_below ((Below.refl _ _).alloc (Nat.le_refl _) _))⟩
    · by_cases hs1 : (f.b.length : Int) < size
      · rw [if_pos (.inr (.inr hs1))]
        clear hr
        go_enter Try.func22, Try.ntmps22
        go_wp2_with fail
        refine (HE.out _).mono ?_
        rintro e w1 ⟨rfl, rfl⟩
        go_wp2
        go_ret
        exact ⟨rfl, (H.out.grow ((Below.refl _ _).alloc (Nat.le_refl _) _)), (KD.of_below ((Below.refl _ _).alloc (Nat.le_refl _) _))⟩
      · rw [if_neg (fun h => h.elim (fun h => h hr) (fun h => h.elim hs0 hs1))]
        clear hr
        obtain ⟨s, rfl⟩ : ∃ s : Nat, size = (s : Int) := ⟨size.toNat, by omega⟩
        rw [Int.toNat_natCast]
        have hoffA := HOFF.out (w.alloc (.cells #[.slice Af f.b.length cf, .int .i64 f.dur] 79)) ((Below.refl _ _).alloc (Nat.le_refl _) _)
        by_cases ho : d.off = true
        · rw [if_pos ho]
          rw [ho] at hoffA
          clear ho
          go_enter Try.func22, Try.ntmps22
          go_wp2_with fail
          refine (HE.out _).mono ?_
          rintro e w1 ⟨rfl, rfl⟩
          go_wp2
          go_ret
          exact ⟨rfl, (H.out.grow ((Below.refl _ _).alloc (Nat.le_refl _) _)), (KD.of_below ((Below.refl _ _).alloc (Nat.le_refl _) _))⟩
        · rw [if_neg ho]
          have ho' : d.off = false := by simpa using ho
          rw [ho'] at hoffA
          obtain ⟨hcut, _, hcc⟩ := Cut.cut_run Af cf f.b s (by omega) hlc .i64 w (HROW.out.c (by omega))
          have hts : (f.b.take s).length = s := by rw [List.length_take]; omega
          rw [hts] at hcut hcc
          generalize stepD d = r at HST hfs ⊢
          obtain ⟨ok, d1⟩ := r
          simp only at HST hfs ⊢
          have HFS := Lib.hid hfs
          have HSET := Lib.hid (fun (dr : Int) (W : World) (h : Dk W D B d1) (hr : Row8 W D Af (f.b.take s)) => set_calls_n D B d1 n hn Af cf s ⟨f.b.take s, dr⟩ hts hcc W h hr)
          clear ho ho' hfs hts
          cases ok
          · rw [if_neg (by simp)]
            clear hcut
            go_enter Try.func22, Try.ntmps22
            go_wp2_with fail
            refine (HE.out _).mono ?_
            rintro e w1 ⟨rfl, rfl⟩
            go_wp2_with fail
            refine (HST.out _ (H.out.grow ((Below.refl _ _).alloc (Nat.le_refl _) _))).mono ?_
            rintro e w1 ⟨rfl, hd1, hk1⟩
            have HD1 := Lib.hid hd1
            have HK1 := Lib.hid hk1
            clear hd1 hk1
            go_wp2
            go_ret
            exact ⟨rfl, HD1.out, ((KD.of_below ((Below.refl _ _).alloc (Nat.le_refl _) _)).trans (KD.of_kx (HK1.out _) hD1 (H.out.grow ((Below.refl _ _).alloc (Nat.le_refl _) _)).noU8))⟩
          · rw [if_pos rfl]
            by_cases hmin : (s : Int) < f.dur
            · rw [if_pos hmin]
              go_enter Try.func22, Try.ntmps22
              go_wp2_with fail
              refine (HE.out _).mono ?_
              rintro e w1 ⟨rfl, rfl⟩
              go_wp2_with fail
              refine (HST.out _ (H.out.grow ((Below.refl _ _).alloc (Nat.le_refl _) _))).mono ?_
              rintro e w1 ⟨rfl, hd1, hk1⟩
              have hFn := World.alloc_heap_new w (.cells #[.slice Af f.b.length cf, .int .i64 f.dur] 79)
              have hF1 := ((hk1 (w.heap.size + 1)).block w.heap.size (by omega) (by omega)).trans hFn
              have f0 := cell_of hF1 0
              have f1 := cell_of hF1 1
              have hkA : KD D w w1 := (KD.of_below ((Below.refl _ _).alloc (Nat.le_refl _) _)).trans (KD.of_kx (hk1 _) hD1 (H.out.grow ((Below.refl _ _).alloc (Nat.le_refl _) _)).noU8)
              have hrow1 : Row8 w1 D Af f.b := HROW.out.same (fun _ h => h) (fun g hg cells hc => ((hk1 (g + 1)).block g (by omega) (fun e => by subst e; have h1 := H.out; obtain ⟨_, _, h1, _⟩ := h1; rw [h1] at hc; injection hc with hc; injection hc with _ hc; cases hc)).trans (heap_alloc_old w _ g (hD3 g hg)))
              have hrow2 : Row8 w1.drew D Af (f.b.take s) := (hrow1.take s).same (fun _ h => h) (fun _ _ _ _ => rfl)
              have HD1 := Lib.hid hd1
              have HKA := Lib.hid hkA
              have HR2 := Lib.hid hrow2
              clear hd1 hk1 hFn hF1 hkA hrow1 hrow2
              go_wp2
              go_still_tail 11, (by kernel_rfl)
              change wpList _ _ _ _ _ w1.drew
              go_wp2_with fail
              refine (HSET.out _ _ HD1.out.drew HR2.out).mono ?_
              rintro e w6 ⟨rfl, hd6, hk6⟩
              have HD6 := Lib.hid hd6
              have HK6 := Lib.hid hk6
              clear hd6 hk6
              go_wp2
              go_ret
              exact ⟨rfl, HD6.out, (HKA.out.trans ((KD.of_below (below_drew (Below.refl _ _))).trans HK6.out))⟩
            · rw [if_neg hmin]
              go_enter Try.func22, Try.ntmps22
              go_wp2_with fail
              refine (HE.out _).mono ?_
              rintro e w1 ⟨rfl, rfl⟩
              go_wp2_with fail
              refine (HST.out _ (H.out.grow ((Below.refl _ _).alloc (Nat.le_refl _) _))).mono ?_
              rintro e w1 ⟨rfl, hd1, hk1⟩
              have hFn := World.alloc_heap_new w (.cells #[.slice Af f.b.length cf, .int .i64 f.dur] 79)
              have hF1 := ((hk1 (w.heap.size + 1)).block w.heap.size (by omega) (by omega)).trans hFn
              have f0 := cell_of hF1 0
              have f1 := cell_of hF1 1
              have hkA : KD D w w1 := (KD.of_below ((Below.refl _ _).alloc (Nat.le_refl _) _)).trans (KD.of_kx (hk1 _) hD1 (H.out.grow ((Below.refl _ _).alloc (Nat.le_refl _) _)).noU8)
              have hrow1 : Row8 w1 D Af f.b := HROW.out.same (fun _ h => h) (fun g hg cells hc => ((hk1 (g + 1)).block g (by omega) (fun e => by subst e; have h1 := H.out; obtain ⟨_, _, h1, _⟩ := h1; rw [h1] at hc; injection hc with hc; injection hc with _ hc; cases hc)).trans (heap_alloc_old w _ g (hD3 g hg)))
              have hrow2 : Row8 w1.drew D Af (f.b.take s) := (hrow1.take s).same (fun _ h => h) (fun _ _ _ _ => rfl)
              have HD1 := Lib.hid hd1
              have HKA := Lib.hid hkA
              have HR2 := Lib.hid hrow2
              clear hd1 hk1 hFn hF1 hkA hrow1 hrow2
              go_wp2
              go_still_tail 11, (by kernel_rfl)
              change wpList _ _ _ _ _ w1.drew
              go_wp2_with fail
              refine (HSET.out _ _ HD1.out.drew HR2.out).mono ?_
              rintro e w6 ⟨rfl, hd6, hk6⟩
              have HD6 := Lib.hid hd6
              have HK6 := Lib.hid hk6
              clear hd6 hk6
              go_wp2
              go_ret
              exact ⟨rfl, HD6.out, (HKA.out.trans ((KD.of_below (below_drew (Below.refl _ _))).trans HK6.out))⟩
  · have HE := Lib.hid (exists_calls n)
    rw [decide_eq_false hr] at HE
    rw [if_pos (.inl hr)]
    clear hr
    go_enter Try.func22, Try.ntmps22
    go_wp2_with fail
    refine (HE.out _).mono ?_
    rintro e w1 ⟨rfl, rfl⟩
    go_wp2
    go_ret
    exact ⟨rfl, (H.out.grow ((Below.refl _ _).alloc (Nat.le_refl _) _)), (KD.of_below ((Below.refl _ _).alloc (Nat.le_refl _) _))⟩

end Go.Proofs.Ytjnbbmiccbjjbaa.Disk
