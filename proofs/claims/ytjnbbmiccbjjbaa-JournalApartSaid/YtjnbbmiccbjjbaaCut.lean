/- A cut from the front of a slice of bytes. -/
import Derived.Test.YtjnbbmiccbjjbaaRdr
namespace Go.Proofs.Ytjnbbmiccbjjbaa.Cut
open Go.RowKit Go.Proofs Go.Proofs.Ytjnbbmiccbjjbaa.Ma Go.Proofs.Ytjnbbmiccbjjbaa.Wire Go.Proofs.Ytjnbbmiccbjjbaa.Rdr Go.Proofs.YtjnbbmiccbjjbaaW.PrintWords Go.Proofs.YtjnbbmiccbjjbaaW.PrintLast

/-- A cut from the front of a slice of bytes. -/
theorem cut_run (A : Option Addr) (cap : Nat) (b : List Int) (m : Nat) (hm : m ≤ b.length) (hc : b.length ≤ cap) (k : IntKind) (w : World) (hC : Kd.C (Kd.int .u8) w A b.length b) :
    (∀ W : World, (Instr.slice 27 (.slice A b.length cap) none (some (.int k m)) none).run Try.prog W = .ok (.slice A (b.take m).length cap) W) ∧ Kd.C (Kd.int .u8) w A (b.take m).length (b.take m) ∧ (b.take m).length ≤ cap := by
  obtain ⟨i0, hi, hz0, hz1, hz2⟩ := info_parts info8
  obtain ⟨h1, h2, h3⟩ := print_take_of (P := Try.prog) (Value.int .u8) 0 27 5 k Try.underlying27 hi hz1 A cap b (m : Int) (by omega) (by omega) hc
  rw [Int.toNat_natCast] at h1 h2 h3
  exact ⟨h1, Kd.C_of_reads (h1 := fun _ => rfl) (h2 _ (Kd.reads_of_C hC)), h3⟩

end Go.Proofs.Ytjnbbmiccbjjbaa.Cut
