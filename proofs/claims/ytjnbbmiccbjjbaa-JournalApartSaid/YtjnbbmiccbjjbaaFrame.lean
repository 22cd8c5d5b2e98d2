/- Frame of package journal: the bytes that it returns. -/
import Derived.Test.YtjnbbmiccbjjbaaHashB
import Derived.Test.YtjnbbmiccbjjbaaWire
namespace Go.Proofs.Ytjnbbmiccbjjbaa.Frame
open Go.RowKit Go.Proofs Go.Proofs.Ytjnbbmiccbjjbaa.Ma Go.Proofs.Ytjnbbmiccbjjbaa.Wire Go.Proofs.Ytjnbbmiccbjjbaa.Hash Go.Proofs.YtjnbbmiccbjjbaaW.PrintWords Go.Proofs.YtjnbbmiccbjjbaaW.PrintLast

set_option maxRecDepth 100000 in
set_option maxHeartbeats 2000000 in
theorem frame_calls (n : Int) (hn : -9223372036854775808 ≤ n ∧ n ≤ 9223372036854775807) (A : Option Addr) (cap : Nat) (b : List Int) (hb255 : ∀ x ∈ b, 0 ≤ x ∧ x ≤ 255) (hbl : b.length ≤ 70368744177000) (w : World) (hC : Kd.C (Kd.int .u8) w A b.length b) :
    Calls Try.prog 62 #[.int .i64 n, .slice A b.length cap] w fun e w' => ∃ v, e = .returned v ∧ Kd.R (Kd.int .u8) 5 w' w.heap.size (fun _ => True) v (frameL n b) ∧ Below w.heap.size w w' := by
  have hlc := coreL_length n hn b (by omega)
  have hcb := coreL_byte n b hb255
  have hlv := vint_length (zz n) (zz_lt n hn)
  have hlr := rawL_length (coreL n b) (by omega)
  have hhn := bytesN_lt entryS (coreL n b)
  have HHE := Lib.hid (bytesN_eq entryS (coreL n b))
  have hlf := frameL_length n hn b (by omega)
  have hB0 : Below w.heap.size w ((w.alloc (.cells #[.slice none 0 0] 98)).alloc (.cells #[.slice none 0 0] 98)) := ((Below.refl _ w).alloc (Nat.le_refl _) _).alloc (by simp) _
  have hbc := (Boxed.new w 98 (.slice none 0 0)).alloc (.cells #[.slice none 0 0] 98)
  have hbw := Boxed.new (w.alloc (.cells #[.slice none 0 0] 98)) 98 (.slice none 0 0)
  rw [World.size_alloc] at hbw
  have hsz0 : ((w.alloc (.cells #[.slice none 0 0] 98)).alloc (.cells #[.slice none 0 0] 98)).heap.size = w.heap.size + 2 := by simp
  go_enter Try.func62, Try.ntmps62
  go_wp2_with fail
  generalize ((w.alloc (.cells #[.slice none 0 0] 98)).alloc (.cells #[.slice none 0 0] 98)) = W0 at hB0 hbc hbw hsz0 ⊢
  have Hsz0 := Lib.hid hsz0
  clear hsz0
  refine (int_calls w.heap.size W0.heap.size [] n hn W0 (Wtr.nil hbc) (Nat.le_refl _) (by simp)).mono ?_
  rintro e W1 ⟨rfl, hc1, hk1⟩
  have hbw1 : Boxed W1 (w.heap.size + 1) 98 (.slice none 0 0) := (hk1.block _ (by have := Hsz0.out; omega) (by omega)).trans hbw
  have hB1 : Below w.heap.size w W1 := hB0.trans (hk1.below (by have := Hsz0.out; omega) (Nat.le_refl _))
  go_wp2_with fail
  refine (raw_calls w.heap.size W0.heap.size _ A cap b hb255 W1 hc1 hk1.size (Kd.C_below hC hB1) (by simp; omega)).mono ?_
  rintro e W2 ⟨rfl, hc2, hk2⟩
  have hbw2 : Boxed W2 (w.heap.size + 1) 98 (.slice none 0 0) := (hk2.block _ (by have := Hsz0.out; omega) (by omega)).trans hbw1
  have hB2 : Below w.heap.size w W2 := hB1.trans (hk2.below (by have := Hsz0.out; omega) (Nat.le_refl _))
  have hc2 : Wtr W2 w.heap.size W0.heap.size (coreL n b) := by simpa [coreL] using hc2
  go_wp2_with fail
  refine (done_calls w.heap.size W0.heap.size _ W2 hc2 (by omega)).mono ?_
  rintro e W3 ⟨v1, rfl, hr3, hb3⟩
  have hbw3 : Boxed W3 (w.heap.size + 1) 98 (.slice none 0 0) := (hb3.block _ hbw2.lt).trans hbw2
  have hB3 : Below w.heap.size w W3 := hB2.trans (hb3.mono hB2.size)
  have hc3 := hc2.below hb3
  obtain ⟨A1, c1, rfl, _, hC3⟩ := Kd.R_reads hr3
  go_wp2_with fail
  refine (raw_calls (w.heap.size + 1) W3.heap.size [] A1 c1 (coreL n b) hcb W3 (Wtr.nil hbw3) (Nat.le_refl _) hC3 (by simp; omega)).mono ?_
  rintro e W4 ⟨rfl, hw4, hk4⟩
  have hc4 : Wtr W4 w.heap.size W0.heap.size (coreL n b) := hc3.kx hk4 (by omega) (Nat.le_refl _) hbw3
  have hB4 : Below w.heap.size w W4 := hB3.trans (hk4.below hB3.size (by omega))
  go_wp2_with fail
  refine (done_calls w.heap.size W0.heap.size _ W4 hc4 (by omega)).mono ?_
  rintro e W5 ⟨v2, rfl, hr5, hb5⟩
  have hB5 : Below w.heap.size w W5 := hB4.trans (hb5.mono hB4.size)
  have hw5 := hw4.below hb5
  obtain ⟨A2, c2, rfl, _, hC5⟩ := Kd.R_reads hr5
  go_wp2_with fail
  refine (bytes_calls entryS (by decide) A2 c2 (coreL n b) hcb (by omega) W5 hC5).mono ?_
  rintro e W6 ⟨rfl, hb6⟩
  have hB6 : Below w.heap.size w W6 := hB5.trans (hb6.mono hB5.size)
  have hw6 := hw5.below hb6
  go_wp2_with fail
  rw [HHE.out]
  refine (uint_calls (w.heap.size + 1) W3.heap.size _ _ hhn W6 hw6 (Nat.le_trans hk4.size (Nat.le_trans hb5.size hb6.size)) (by simp; omega)).mono ?_
  rintro e W7 ⟨rfl, hw7, hk7⟩
  have hB7 : Below w.heap.size w W7 := hB6.trans (hk7.below hB3.size (by omega))
  have hw7 : Wtr W7 (w.heap.size + 1) W3.heap.size (frameL n b) := by simpa [frameL] using hw7
  go_wp2_with fail
  refine (done_calls (w.heap.size + 1) W3.heap.size _ W7 hw7 (by omega)).mono ?_
  rintro e W8 ⟨v3, rfl, hr8, hb8⟩
  go_wp2
  go_ret
  exact ⟨_, rfl, Kd.R_lower hr8 hB7.size, hB7.trans (hb8.mono hB7.size)⟩
end Go.Proofs.Ytjnbbmiccbjjbaa.Frame
