/- Package journal: Open, Append, Len, Up. -/
import Derived.Test.YtjnbbmiccbjjbaaDkP
import Derived.Test.YtjnbbmiccbjjbaaLives7a
import Derived.Defers
namespace Go.Proofs.Ytjnbbmiccbjjbaa.Jnl
open Go.RowKit Go.Proofs Go.Proofs.Ytjnbbmiccbjjbaa.Ma Go.Proofs.Ytjnbbmiccbjjbaa.Wire Go.Proofs.Ytjnbbmiccbjjbaa.Rdr Go.Proofs.Ytjnbbmiccbjjbaa.Scan Go.Proofs.Ytjnbbmiccbjjbaa.Few Go.Proofs.Ytjnbbmiccbjjbaa.Ref07 Go.Proofs.Ytjnbbmiccbjjbaa.Lives7 Go.Proofs.Ytjnbbmiccbjjbaa.Disk Go.Proofs.YtjnbbmiccbjjbaaW.PrintWords Go.Proofs.YtjnbbmiccbjjbaaW.PrintLast

/-- Block L is a log of the disk at B. -/
def Lg (W : World) (L B : Nat) (file n : Int) (down : Bool) : Prop := W.heap[L]? = some (.cells #[.pointer (some ⟨B, 0, none⟩), .int .i64 file, .int .i64 n, .bool down] 95 (0, 0))

def scansL (b : List Int) : List (List Int × Int) := scanR (b.length + 1) 0 0 b

/-- What Open does: the error, and the disk behind it. -/
def openD (d : Dsk) (n : Int) : Int × Dsk :=
  if (readD d n).2 = 0 then
    (if endL (scansL (readD d n).1) < (readD d n).1.length then
      (if (truncD d n (endL (scansL (readD d n).1))).1 = 0 then syncD (truncD d n (endL (scansL (readD d n).1))).2 else truncD d n (endL (scansL (readD d n).1)))
    else syncD d)
  else ((readD d n).2, d)

/-- What Open leaves. -/
def OpenP (D : Nat → Prop) (B : Nat) (d : Dsk) (n : Int) (w : World) (e : Ending) (w' : World) : Prop :=
  ((openD d n).1 = 0 ∧ ∃ L v, e = .returned (.tuple #[.pointer (some ⟨L, 0, none⟩), v, .int .i64 0]) ∧ Lg w' L B n (((scansL (readD d n).1).map Prod.fst).length : Int) false ∧ w.heap.size ≤ L ∧
    KL.R 27 w' w.heap.size (fun k => w.heap.size ≤ k ∧ k ≠ L) v ((scansL (readD d n).1).map Prod.fst) ∧ Dk w' D B (openD d n).2 ∧ KD D w w') ∨
  ((openD d n).1 ≠ 0 ∧ e = .returned (.tuple #[.pointer none, .slice none 0 0, .int .i64 (openD d n).1]) ∧ Dk w' D B (openD d n).2 ∧ KD D w w')

theorem slice_len {A : Option Addr} {n m c : Nat} (h : n = m) : Value.slice A n c = .slice A m c := by rw [h]

set_option maxRecDepth 100000 in
set_option maxHeartbeats 1000000 in
theorem open_nil (n : Int) (w : World) : Calls Try.prog 36 #[.pointer none, .int .i64 n] w fun e w' => e = .returned (.tuple #[.pointer none, .slice none 0 0, .int .i64 1]) ∧ w = w' := by
  go_enter Try.func36, Try.ntmps36
  go_wp2
  go_ret3
  exact ⟨rfl, rfl⟩

set_option maxRecDepth 100000 in
set_option maxHeartbeats 8000000 in
theorem open_calls (D : Nat → Prop) (B : Nat) (d : Dsk) (hd : DOk d) (n : Int) (hn : -9223372036854775808 ≤ n ∧ n ≤ 9223372036854775807) (w : World) (h : Dk w D B d) :
    Calls Try.prog 36 #[.pointer (some ⟨B, 0, none⟩), .int .i64 n] w (OpenP D B d n w) := by
  have H := Lib.hid h
  have hD3 : ∀ k, D k → k < w.heap.size := by obtain ⟨_, _, _, _, _, _, _, h3⟩ := h; exact h3
  have hD1 : D B := by obtain ⟨_, _, _, _, _, h1, _, _⟩ := h; exact h1
  have HRD := Lib.hid (read_calls D B d n hn (by have := hd.len n; omega) w h)
  obtain ⟨hb255, hbl⟩ := readD_ok hd n
  have HP := Lib.hid (fun (e : Ending) (w' : World) (hh : ((openD d n).1 = 0 ∧ ∃ L v, e = .returned (.tuple #[.pointer (some ⟨L, 0, none⟩), v, .int .i64 0]) ∧ Lg w' L B n (((scansL (readD d n).1).map Prod.fst).length : Int) false ∧ w.heap.size ≤ L ∧ KL.R 27 w' w.heap.size (fun k => w.heap.size ≤ k ∧ k ≠ L) v ((scansL (readD d n).1).map Prod.fst) ∧ Dk w' D B (openD d n).2 ∧ KD D w w') ∨
    ((openD d n).1 ≠ 0 ∧ e = .returned (.tuple #[.pointer none, .slice none 0 0, .int .i64 (openD d n).1]) ∧ Dk w' D B (openD d n).2 ∧ KD D w w')) => (show OpenP D B d n w e w' from hh))
  generalize OpenP D B d n w = Post at HP ⊢
  unfold openD at HP
  have HTR := Lib.hid (fun (size : Int) (W : World) (h : Dk W D B d) => trunc_calls D B d n hn size hd.left (by have := hd.len n; omega) W h)
  have HTK := Lib.hid (fun size => hd.trunc n size)
  have HSY := Lib.hid (fun (d : Dsk) (hd : DOk d) (W : World) (h : Dk W D B d) => sync_calls D B d hd.left W h)
  generalize readD d n = r at HRD hb255 hbl HP
  obtain ⟨b, e0⟩ := r
  simp only at HRD hb255 hbl HP
  clear h
  by_cases he0 : e0 = 0
  · subst he0
    simp only [if_pos] at HP
    have HSC := Lib.hid (fun (A : Option Addr) (c : Nat) (hc : b.length ≤ c) (W : World) (hC : Kd.C (Kd.int .u8) W A b.length b) => scan_calls_n A c b.length b rfl hb255 (by omega) hc W hC)
    have HRL : ∀ (S : List (List Int × Int)), scansL b = S → scanR (b.length + 1) 0 0 b = S := fun _ e => e
    generalize hS : scansL b = S at HP
    rw [HRL S hS] at HSC
    generalize hN : endL S = N at HP HSC
    generalize hX : S.map Prod.fst = X at HP HSC
    clear hS HRL hN hX hb255
    by_cases hlt : N < (b.length : Int)
    · rw [if_pos hlt] at HP
      have HT := Lib.hid (HTR.out N)
      have HTO := Lib.hid (HTK.out N)
      generalize truncD d n N = t at HP HT HTO
      obtain ⟨et, dt⟩ := t
      simp only at HP HT HTO
      by_cases het : et = 0
      · subst het
        simp only [if_pos] at HP
        have HS := Lib.hid (HSY.out dt HTO.out)
        generalize syncD dt = s at HP HS
        obtain ⟨es, ds⟩ := s
        simp only at HP HS
        by_cases hes : es = 0
        · subst hes
          go_enter Try.func36, Try.ntmps36
          go_wp2_with fail
          refine HRD.out.mono ?_
          rintro e w1 ⟨v1, rfl, hR1, hB1⟩
          obtain ⟨A1, c1, rfl, hcc1, hC1⟩ := Kd.R_reads hR1
          have HC1 := Lib.hid hC1
          have HB1 := Lib.hid hB1
          clear hR1 hC1 hB1
          go_wp2_with fail
          refine (HSC.out A1 c1 hcc1 w1 HC1.out).mono ?_
          rintro e w2 ⟨v2, rfl, hR2, hB2⟩
          obtain ⟨A2, c2, rfl, hcc2, _⟩ := Kd.R_reads hR2
          have hB12 : Below w.heap.size w w2 := HB1.out.trans (hB2.mono HB1.out.size)
          have hsz1 := HB1.out.size
          have hR2' : KL.R 27 w2 w1.heap.size (fun k => w1.heap.size ≤ k ∧ k < w2.heap.size) (.slice A2 X.length c2) X := Kd.R_mono (Kd.R_bound hR2) (fun k hk => ⟨hk.2.1, hk.2.2.1⟩)
          have HR2 := Lib.hid hR2'
          have HB12 := Lib.hid hB12
          clear hR2 hB2 hR2' hB12
          go_wp2_with fail
          refine (HT.out w2 (H.out.grow HB12.out)).mono ?_
          rintro e w3 ⟨rfl, hd3, hk3⟩
          have hR3 : KL.R 27 w3 w1.heap.size (fun k => w1.heap.size ≤ k ∧ k < w2.heap.size) (.slice A2 X.length c2) X := Kd.R_step HR2.out (fun k ho hk => hk3.block k hk (fun e => by have := hD3 k e; omega))
          have HK3 := Lib.hid ((KD.of_below HB12.out).trans hk3)
          have HR3 := Lib.hid hR3
          have HD3 := Lib.hid hd3
          have hz3 := hk3.size
          clear hd3 hk3 hR3
          go_wp2_with fail
          refine (HS.out w3 HD3.out).mono ?_
          rintro e w4 ⟨rfl, hd4, hk4⟩
          have hR4 : KL.R 27 w4 w1.heap.size (fun k => w1.heap.size ≤ k ∧ k < w2.heap.size) (.slice A2 X.length c2) X := Kd.R_step HR3.out (fun k ho hk => hk4.block k hk (fun e => by have := hD3 k e; omega))
          have HK4 := Lib.hid (HK3.out.trans hk4)
          have HR4 := Lib.hid hR4
          have HD4 := Lib.hid hd4
          have hz4 := hk4.size
          clear hd4 hk4 hR4
          go_wp2
          go_ret3
          refine HP.out _ _ ?_
          refine (.inl ⟨by first | rfl | trivial, w4.heap.size, _, rfl, World.alloc_heap_new w4 _, HK4.out.size, ?_, HD4.out.grow ((Below.refl _ _).alloc (Nat.le_refl _) _), HK4.out.trans (KD.of_below ((Below.refl _ _).alloc (Nat.le_refl _) _))⟩)
          exact Kd.R_lower (Kd.R_mono (Kd.R_alloc HR4.out _) (fun k hk => ⟨Nat.le_trans hsz1 hk.1, by omega⟩)) hsz1
        · have hes1 : (es == 0) = false := by simpa using hes
          have hes2 : (es != 0) = true := by simpa using hes
          have HES := Lib.hid hes
          clear hes
          go_enter Try.func36, Try.ntmps36
          go_wp2_with fail
          refine HRD.out.mono ?_
          rintro e w1 ⟨v1, rfl, hR1, hB1⟩
          obtain ⟨A1, c1, rfl, hcc1, hC1⟩ := Kd.R_reads hR1
          have HC1 := Lib.hid hC1
          have HB1 := Lib.hid hB1
          clear hR1 hC1 hB1
          go_wp2_with fail
          refine (HSC.out A1 c1 hcc1 w1 HC1.out).mono ?_
          rintro e w2 ⟨v2, rfl, hR2, hB2⟩
          obtain ⟨A2, c2, rfl, hcc2, _⟩ := Kd.R_reads hR2
          have hB12 : Below w.heap.size w w2 := HB1.out.trans (hB2.mono HB1.out.size)
          have hsz1 := HB1.out.size
          have hR2' : KL.R 27 w2 w1.heap.size (fun k => w1.heap.size ≤ k ∧ k < w2.heap.size) (.slice A2 X.length c2) X := Kd.R_mono (Kd.R_bound hR2) (fun k hk => ⟨hk.2.1, hk.2.2.1⟩)
          have HR2 := Lib.hid hR2'
          have HB12 := Lib.hid hB12
          clear hR2 hB2 hR2' hB12
          go_wp2_with fail
          refine (HT.out w2 (H.out.grow HB12.out)).mono ?_
          rintro e w3 ⟨rfl, hd3, hk3⟩
          have hR3 : KL.R 27 w3 w1.heap.size (fun k => w1.heap.size ≤ k ∧ k < w2.heap.size) (.slice A2 X.length c2) X := Kd.R_step HR2.out (fun k ho hk => hk3.block k hk (fun e => by have := hD3 k e; omega))
          have HK3 := Lib.hid ((KD.of_below HB12.out).trans hk3)
          have HR3 := Lib.hid hR3
          have HD3 := Lib.hid hd3
          have hz3 := hk3.size
          clear hd3 hk3 hR3
          go_wp2_with fail
          refine (HS.out w3 HD3.out).mono ?_
          rintro e w4 ⟨rfl, hd4, hk4⟩
          have hR4 : KL.R 27 w4 w1.heap.size (fun k => w1.heap.size ≤ k ∧ k < w2.heap.size) (.slice A2 X.length c2) X := Kd.R_step HR3.out (fun k ho hk => hk4.block k hk (fun e => by have := hD3 k e; omega))
          have HK4 := Lib.hid (HK3.out.trans hk4)
          have HR4 := Lib.hid hR4
          have HD4 := Lib.hid hd4
          have hz4 := hk4.size
          clear hd4 hk4 hR4
          go_wp2
          go_ret3
          refine HP.out _ _ ?_
          exact (.inr ⟨HES.out, rfl, HD4.out, HK4.out⟩)
      · rw [if_neg het] at HP
        have het1 : (et == 0) = false := by simpa using het
        have het2 : (et != 0) = true := by simpa using het
        have HET := Lib.hid het
        clear het
        go_enter Try.func36, Try.ntmps36
        go_wp2_with fail
        refine HRD.out.mono ?_
        rintro e w1 ⟨v1, rfl, hR1, hB1⟩
        obtain ⟨A1, c1, rfl, hcc1, hC1⟩ := Kd.R_reads hR1
        have HC1 := Lib.hid hC1
        have HB1 := Lib.hid hB1
        clear hR1 hC1 hB1
        go_wp2_with fail
        refine (HSC.out A1 c1 hcc1 w1 HC1.out).mono ?_
        rintro e w2 ⟨v2, rfl, hR2, hB2⟩
        obtain ⟨A2, c2, rfl, hcc2, _⟩ := Kd.R_reads hR2
        have hB12 : Below w.heap.size w w2 := HB1.out.trans (hB2.mono HB1.out.size)
        have hsz1 := HB1.out.size
        have hR2' : KL.R 27 w2 w1.heap.size (fun k => w1.heap.size ≤ k ∧ k < w2.heap.size) (.slice A2 X.length c2) X := Kd.R_mono (Kd.R_bound hR2) (fun k hk => ⟨hk.2.1, hk.2.2.1⟩)
        have HR2 := Lib.hid hR2'
        have HB12 := Lib.hid hB12
        clear hR2 hB2 hR2' hB12
        go_wp2_with fail
        refine (HT.out w2 (H.out.grow HB12.out)).mono ?_
        rintro e w3 ⟨rfl, hd3, hk3⟩
        have hR3 : KL.R 27 w3 w1.heap.size (fun k => w1.heap.size ≤ k ∧ k < w2.heap.size) (.slice A2 X.length c2) X := Kd.R_step HR2.out (fun k ho hk => hk3.block k hk (fun e => by have := hD3 k e; omega))
        have HK3 := Lib.hid ((KD.of_below HB12.out).trans hk3)
        have HR3 := Lib.hid hR3
        have HD3 := Lib.hid hd3
        have hz3 := hk3.size
        clear hd3 hk3 hR3
        go_wp2
        go_ret3
        refine HP.out _ _ ?_
        exact (.inr ⟨HET.out, rfl, HD3.out, HK3.out⟩)
    · rw [if_neg hlt] at HP
      have HS := Lib.hid (HSY.out d hd)
      generalize syncD d = s at HP HS
      obtain ⟨es, ds⟩ := s
      simp only at HP HS
      by_cases hes : es = 0
      · subst hes
        go_enter Try.func36, Try.ntmps36
        go_wp2_with fail
        refine HRD.out.mono ?_
        rintro e w1 ⟨v1, rfl, hR1, hB1⟩
        obtain ⟨A1, c1, rfl, hcc1, hC1⟩ := Kd.R_reads hR1
        have HC1 := Lib.hid hC1
        have HB1 := Lib.hid hB1
        clear hR1 hC1 hB1
        go_wp2_with fail
        refine (HSC.out A1 c1 hcc1 w1 HC1.out).mono ?_
        rintro e w2 ⟨v2, rfl, hR2, hB2⟩
        obtain ⟨A2, c2, rfl, hcc2, _⟩ := Kd.R_reads hR2
        have hB12 : Below w.heap.size w w2 := HB1.out.trans (hB2.mono HB1.out.size)
        have hsz1 := HB1.out.size
        have hR2' : KL.R 27 w2 w1.heap.size (fun k => w1.heap.size ≤ k ∧ k < w2.heap.size) (.slice A2 X.length c2) X := Kd.R_mono (Kd.R_bound hR2) (fun k hk => ⟨hk.2.1, hk.2.2.1⟩)
        have HR2 := Lib.hid hR2'
        have HB12 := Lib.hid hB12
        clear hR2 hB2 hR2' hB12
        go_wp2_with fail
        obtain ⟨w3, rfl⟩ : ∃ w3, w3 = w2 := ⟨w2, rfl⟩
        have HK3 := Lib.hid (KD.of_below (D := D) HB12.out)
        have HR3 := HR2
        have HD3 := Lib.hid (H.out.grow HB12.out)
        have hz3 := Nat.le_refl w3.heap.size
        refine (HS.out w3 HD3.out).mono ?_
        rintro e w4 ⟨rfl, hd4, hk4⟩
        have hR4 : KL.R 27 w4 w1.heap.size (fun k => w1.heap.size ≤ k ∧ k < w3.heap.size) (.slice A2 X.length c2) X := Kd.R_step HR3.out (fun k ho hk => hk4.block k hk (fun e => by have := hD3 k e; omega))
        have HK4 := Lib.hid (HK3.out.trans hk4)
        have HR4 := Lib.hid hR4
        have HD4 := Lib.hid hd4
        have hz4 := hk4.size
        clear hd4 hk4 hR4
        go_wp2
        go_ret3
        refine HP.out _ _ ?_
        refine (.inl ⟨by first | rfl | trivial, w4.heap.size, _, rfl, World.alloc_heap_new w4 _, HK4.out.size, ?_, HD4.out.grow ((Below.refl _ _).alloc (Nat.le_refl _) _), HK4.out.trans (KD.of_below ((Below.refl _ _).alloc (Nat.le_refl _) _))⟩)
        exact Kd.R_lower (Kd.R_mono (Kd.R_alloc HR4.out _) (fun k hk => ⟨Nat.le_trans hsz1 hk.1, by omega⟩)) hsz1
      · have hes1 : (es == 0) = false := by simpa using hes
        have hes2 : (es != 0) = true := by simpa using hes
        have HES := Lib.hid hes
        clear hes
        go_enter Try.func36, Try.ntmps36
        go_wp2_with fail
        refine HRD.out.mono ?_
        rintro e w1 ⟨v1, rfl, hR1, hB1⟩
        obtain ⟨A1, c1, rfl, hcc1, hC1⟩ := Kd.R_reads hR1
        have HC1 := Lib.hid hC1
        have HB1 := Lib.hid hB1
        clear hR1 hC1 hB1
        go_wp2_with fail
        refine (HSC.out A1 c1 hcc1 w1 HC1.out).mono ?_
        rintro e w2 ⟨v2, rfl, hR2, hB2⟩
        obtain ⟨A2, c2, rfl, hcc2, _⟩ := Kd.R_reads hR2
        have hB12 : Below w.heap.size w w2 := HB1.out.trans (hB2.mono HB1.out.size)
        have hsz1 := HB1.out.size
        have hR2' : KL.R 27 w2 w1.heap.size (fun k => w1.heap.size ≤ k ∧ k < w2.heap.size) (.slice A2 X.length c2) X := Kd.R_mono (Kd.R_bound hR2) (fun k hk => ⟨hk.2.1, hk.2.2.1⟩)
        have HR2 := Lib.hid hR2'
        have HB12 := Lib.hid hB12
        clear hR2 hB2 hR2' hB12
        go_wp2_with fail
        obtain ⟨w3, rfl⟩ : ∃ w3, w3 = w2 := ⟨w2, rfl⟩
        have HK3 := Lib.hid (KD.of_below (D := D) HB12.out)
        have HR3 := HR2
        have HD3 := Lib.hid (H.out.grow HB12.out)
        have hz3 := Nat.le_refl w3.heap.size
        refine (HS.out w3 HD3.out).mono ?_
        rintro e w4 ⟨rfl, hd4, hk4⟩
        have hR4 : KL.R 27 w4 w1.heap.size (fun k => w1.heap.size ≤ k ∧ k < w3.heap.size) (.slice A2 X.length c2) X := Kd.R_step HR3.out (fun k ho hk => hk4.block k hk (fun e => by have := hD3 k e; omega))
        have HK4 := Lib.hid (HK3.out.trans hk4)
        have HR4 := Lib.hid hR4
        have HD4 := Lib.hid hd4
        have hz4 := hk4.size
        clear hd4 hk4 hR4
        go_wp2
        go_ret3
        refine HP.out _ _ ?_
        exact (.inr ⟨HES.out, rfl, HD4.out, HK4.out⟩)
  · rw [if_neg he0] at HP
    have he1 : (e0 == 0) = false := by simpa using he0
    have he2 : (e0 != 0) = true := by simpa using he0
    have HE := Lib.hid he0
    clear he0
    go_enter Try.func36, Try.ntmps36
    go_wp2_with fail
    refine HRD.out.mono ?_
    rintro e w1 ⟨v1, rfl, hR1, hB1⟩
    have HB1 := Lib.hid hB1
    clear hR1 hB1
    go_wp2
    go_ret3
    refine HP.out _ _ ?_
    exact (.inr ⟨HE.out, rfl, H.out.grow HB1.out, KD.of_below HB1.out⟩)

end Go.Proofs.Ytjnbbmiccbjjbaa.Jnl
