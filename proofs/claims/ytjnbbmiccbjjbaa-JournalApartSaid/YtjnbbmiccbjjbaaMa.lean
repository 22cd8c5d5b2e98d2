/- Plain facts on words of bytes and on the hash: numbers and lists alone. -/
import Derived.Laws.BitsLemmas
import Derived.Laws.Bits64
import Derived.Laws.Bits64b
import Derived.Laws.Shifts
import Derived.WalkKit
namespace Go.Proofs.Ytjnbbmiccbjjbaa.Ma
open Go Go.RowKit

/-- The number whose digits in base 256 are the bytes from i on, m of them. -/
def wv (b : Nat → Int) (i : Nat) : Nat → Int
  | 0 => 0
  | m + 1 => wv b i m + b (i + m) * 256 ^ m

theorem wv_range (b : Nat → Int) (hb : ∀ j, 0 ≤ b j ∧ b j ≤ 255) (i : Nat) : ∀ m, 0 ≤ wv b i m ∧ wv b i m < 256 ^ m
  | 0 => by simp [wv]
  | m + 1 => by
    have h := wv_range b hb i m
    have hx := hb (i + m)
    have hp : (0 : Int) < 256 ^ m := Int.pow_pos (by decide)
    have h1 : 0 ≤ b (i + m) * 256 ^ m := Int.mul_nonneg hx.1 (Int.le_of_lt hp)
    have h2 : b (i + m) * 256 ^ m ≤ 255 * 256 ^ m := Int.mul_le_mul_of_nonneg_right hx.2 (Int.le_of_lt hp)
    rw [wv, Int.pow_succ]
    omega

theorem pow_le8 (m : Nat) (h : m ≤ 8) : (256 : Int) ^ m ≤ 18446744073709551616 := by
  have : m = 0 ∨ m = 1 ∨ m = 2 ∨ m = 3 ∨ m = 4 ∨ m = 5 ∨ m = 6 ∨ m = 7 ∨ m = 8 := by omega
  rcases this with rfl | rfl | rfl | rfl | rfl | rfl | rfl | rfl | rfl <;> decide

theorem wv_u64 (b : Nat → Int) (hb : ∀ j, 0 ≤ b j ∧ b j ≤ 255) (i m : Nat) (h : m ≤ 8) : 0 ≤ wv b i m ∧ wv b i m < 18446744073709551616 := by
  have h1 := wv_range b hb i m
  have h2 := pow_le8 m h
  omega

theorem wv_or (b : Nat → Int) (hb : ∀ j, 0 ≤ b j ∧ b j ≤ 255) (i m : Nat) (h : m < 8) :
    bits .or .u64 (wv b i m) (IntKind.u64.wrap (IntKind.u64.wrap (b (i + m)) * 2 ^ (8 * m))) = wv b i (m + 1) := by
  have h1 := wv_range b hb i m
  have h2 := pow_le8 m (by omega)
  have h3 := wv_u64 b hb i (m + 1) (by omega)
  have hx := hb (i + m)
  have e2 : (2 : Int) ^ (8 * m) = 256 ^ m := by rw [Int.pow_mul]; rfl
  have e3 : IntKind.u64.wrap (b (i + m)) = b (i + m) := by rw [IntKind.wrap_u64]; omega
  rw [wv] at h3 ⊢
  have e4 : IntKind.u64.wrap (b (i + m) * 256 ^ m) = b (i + m) * 256 ^ m := by
    have hp : (0 : Int) < 256 ^ m := Int.pow_pos (by decide)
    have h1 : 0 ≤ b (i + m) * 256 ^ m := Int.mul_nonneg hx.1 (Int.le_of_lt hp)
    rw [IntKind.wrap_u64]; omega
  rw [e3, e2, e4]
  obtain ⟨x, ex⟩ := Int.eq_ofNat_of_zero_le h1.1
  obtain ⟨y, ey⟩ := Int.eq_ofNat_of_zero_le hx.1
  rw [ex, ey] at h3 ⊢
  rw [ex] at h1
  have e5 : (y : Int) * 256 ^ m = ((2 ^ (8 * m) * y : Nat) : Int) := by push_cast; rw [e2, Int.mul_comm]
  have hx2 : x < 2 ^ (8 * m) := by
    have : (x : Int) < ((2 ^ (8 * m) : Nat) : Int) := by push_cast; rw [e2]; exact h1.2
    omega
  rw [e5] at h3 ⊢
  rw [bits_or_u64_nat _ _ (by omega) (by omega), Nat.or_comm, ← Nat.two_pow_add_eq_or_of_lt hx2]
  omega

/-- The words of n bytes. -/
def wordsF (b : Nat → Int) (n : Nat) : List Int := (List.range ((n + 7) / 8)).map fun k => wv b (8 * k) (min 8 (n - 8 * k))

theorem wordsF_length (b : Nat → Int) (n : Nat) : (wordsF b n).length = (n + 7) / 8 := by simp [wordsF]

theorem wordsF_u64 (b : Nat → Int) (hb : ∀ j, 0 ≤ b j ∧ b j ≤ 255) (n : Nat) : ∀ x ∈ wordsF b n, 0 ≤ x ∧ x < 18446744073709551616 := by
  intro x hx
  simp only [wordsF, List.mem_map] at hx
  obtain ⟨k, _, rfl⟩ := hx
  exact wv_u64 b hb _ _ (by omega)

/-- One step of the hash. -/
def mixL (s w : Int) : Int := bits .xor .u64 (IntKind.u64.wrap ((bits .xor .u64 s w) * 11400714819323198485)) ((IntKind.u64.wrap ((bits .xor .u64 s w) * 11400714819323198485)) / 4294967296)

/-- The hash of the words of a label of n bytes and of a list of integers. -/
def sumL (ws : List Int) (n : Nat) (l : List Int) : Int := mixL ((l.map fun x => IntKind.u64.wrap x).foldl mixL (mixL (mixL (ws.foldl mixL 0) n) l.length)) 0

/-- The varint of a number. -/
def vint (n : Nat) : List Int := if h : n < 128 then [(n : Int)] else ((n % 128 + 128 : Nat) : Int) :: vint (n / 128)
termination_by n
decreasing_by omega

theorem vint_small (n : Nat) (h : n < 128) : vint n = [(n : Int)] := by rw [vint, dif_pos h]
theorem vint_big (n : Nat) (h : ¬ n < 128) : vint n = ((n % 128 + 128 : Nat) : Int) :: vint (n / 128) := by rw [vint, dif_neg h]

theorem vint_le : ∀ (k n : Nat), n < 128 ^ (k + 1) → (vint n).length ≤ k + 1
  | 0, n, h => by rw [vint_small n (by simpa using h)]; simp
  | k + 1, n, h => by
    by_cases hs : n < 128
    · rw [vint_small n hs]; simp
    · rw [vint_big n hs, List.length_cons]
      have : n / 128 < 128 ^ (k + 1) := by
        rw [Nat.div_lt_iff_lt_mul (by decide)]
        rw [Nat.pow_succ] at h
        exact h
      have := vint_le k (n / 128) this
      omega
theorem vint_length (n : Nat) (h : n < 18446744073709551616) : (vint n).length ≤ 10 :=
  vint_le 9 n (Nat.lt_of_lt_of_le h (by decide))
theorem vint_pos (n : Nat) : 0 < (vint n).length := by
  by_cases hs : n < 128
  · rw [vint_small n hs]; simp
  · rw [vint_big n hs]; simp
theorem vint_byte (n : Nat) : ∀ x ∈ vint n, 0 ≤ x ∧ x ≤ 255 := by
  induction n using Nat.strongRecOn with
  | _ n ih =>
    by_cases hs : n < 128
    · rw [vint_small n hs]; simp; omega
    · rw [vint_big n hs]
      intro x hx
      rcases List.mem_cons.1 hx with rfl | hx
      · omega
      · exact ih (n / 128) (by omega) x hx

/-- The zigzag form of an int. -/
def zz (n : Int) : Nat := if n < 0 then (-2 * n - 1).toNat else (2 * n).toNat

/-- A byte slice with its length. -/
def rawL (b : List Int) : List Int := vint b.length ++ b

theorem or128 (n : Nat) : bits .or .u8 ((n : Int) % 256) 128 = ((n % 128 + 128 : Nat) : Int) := by
  have h : ∀ a : Fin 256, bits .or .u8 ((a.val : Int)) 128 = ((a.val % 128 + 128 : Nat) : Int) := by decide +kernel
  have := h ⟨n % 256, by omega⟩
  simp only at this
  rw [show ((n : Int) % 256) = ((n % 256 : Nat) : Int) by omega, this]
  omega

theorem xor_ones (x : Nat) (h : x < 18446744073709551616) : bits .xor .u64 (x : Int) 18446744073709551615 = ((18446744073709551615 - x : Nat) : Int) := by
  rw [show (18446744073709551615 : Int) = ((18446744073709551615 : Nat) : Int) from rfl, bits_xor_u64_nat x 18446744073709551615 h (by decide)]
  have h2 : x ^^^ 18446744073709551615 = 18446744073709551615 - x := by
    have hx : (BitVec.ofNat 64 x ^^^ BitVec.allOnes 64).toNat = (~~~ (BitVec.ofNat 64 x)).toNat := by rw [BitVec.xor_allOnes]
    rw [BitVec.toNat_xor, BitVec.toNat_not, BitVec.toNat_ofNat, Nat.mod_eq_of_lt h, BitVec.toNat_allOnes] at hx
    exact hx
  rw [h2]
theorem xor_zero (x : Nat) (h : x < 18446744073709551616) : bits .xor .u64 (x : Int) 0 = (x : Int) := by
  have := bits_xor_u64_nat x 0 h (by decide)
  simpa using this

theorem zigzag_eq (n : Int) (hn : -9223372036854775808 ≤ n ∧ n ≤ 9223372036854775807) :
    bits .xor .u64 (IntKind.u64.wrap (IntKind.u64.wrap n * 2)) (IntKind.u64.wrap (n / 9223372036854775808)) = (zz n : Int) := by
  by_cases h : n < 0
  · have e1 : IntKind.u64.wrap (n / 9223372036854775808) = 18446744073709551615 := by rw [IntKind.wrap_u64]; omega
    have e2 : IntKind.u64.wrap (IntKind.u64.wrap n * 2) = (((2 * n + 18446744073709551616).toNat : Nat) : Int) := by rw [IntKind.wrap_u64, IntKind.wrap_u64]; omega
    rw [e1, e2, xor_ones _ (by omega)]
    unfold zz
    rw [if_pos h]
    omega
  · have e1 : IntKind.u64.wrap (n / 9223372036854775808) = 0 := by rw [IntKind.wrap_u64]; omega
    have e2 : IntKind.u64.wrap (IntKind.u64.wrap n * 2) = (((2 * n).toNat : Nat) : Int) := by rw [IntKind.wrap_u64, IntKind.wrap_u64]; omega
    rw [e1, e2, xor_zero _ (by omega)]
    unfold zz
    rw [if_neg h]

/-- Byte j of a list. -/
def rdN (s : List Int) (j : Nat) : Int := s.getD j 0
theorem rdN_range (s : List Int) (h : ∀ x ∈ s, 0 ≤ x ∧ x ≤ 255) (j : Nat) : 0 ≤ rdN s j ∧ rdN s j ≤ 255 := by
  unfold rdN
  rw [List.getD_eq_getElem?_getD]
  by_cases hj : j < s.length
  · rw [List.getElem?_eq_getElem hj]
    exact h _ (List.getElem_mem hj)
  · rw [List.getElem?_eq_none (by omega)]
    exact ⟨by decide, by decide⟩

/-- Byte j of a string as a number. -/
def bsN (s : ByteArray) (j : Nat) : Int := if h : j < s.size then ((s[j]'h).toNat : Int) else 0
theorem bsN_range (s : ByteArray) (j : Nat) : 0 ≤ bsN s j ∧ bsN s j ≤ 255 := by
  unfold bsN
  split
  · rename_i h
    have := (s[j]'h).toNat_lt
    omega
  · omega
theorem bsN_at (s : ByteArray) (j : Nat) (h : j < s.size) : ((s[j]'h).toNat : Int) = bsN s j := by simp [bsN, h]

/-- The hash of a label and of bytes. -/
def bytesH (s : ByteArray) (b : List Int) : Int := sumL (wordsF (bsN s) s.size) s.size ((wordsF (rdN b) b.length).map (fun x => wrap64 x) ++ [(b.length : Int)])

theorem mixL_range (s w : Int) : 0 ≤ mixL s w ∧ mixL s w < 18446744073709551616 := by
  unfold mixL
  generalize IntKind.u64.wrap _ = a
  unfold bits
  simp only [IntKind.wrap_u64]
  omega
theorem sumL_range (ws : List Int) (n : Nat) (l : List Int) : 0 ≤ sumL ws n l ∧ sumL ws n l < 18446744073709551616 := mixL_range _ _
theorem bytesH_range (s : ByteArray) (b : List Int) : 0 ≤ bytesH s b ∧ bytesH s b < 18446744073709551616 := sumL_range _ _ _

/-- The hash as a natural number. -/
def bytesN (s : ByteArray) (b : List Int) : Nat := (bytesH s b).toNat
theorem bytesN_eq (s : ByteArray) (b : List Int) : bytesH s b = ((bytesN s b : Nat) : Int) := by
  have := bytesH_range s b
  unfold bytesN
  omega
theorem bytesN_lt (s : ByteArray) (b : List Int) : bytesN s b < 18446744073709551616 := by
  have := bytesH_range s b
  unfold bytesN
  omega

/-- The core of a record, and its frame. -/
def coreL (n : Int) (b : List Int) : List Int := vint (zz n) ++ rawL b
def entryS : ByteArray := { data := #[101, 110, 116, 114, 121] }
def frameL (n : Int) (b : List Int) : List Int := rawL (coreL n b) ++ vint (bytesN entryS (coreL n b))

theorem zz_lt (n : Int) (hn : -9223372036854775808 ≤ n ∧ n ≤ 9223372036854775807) : zz n < 18446744073709551616 := by unfold zz; split <;> omega
theorem rawL_length (b : List Int) (h : b.length < 18446744073709551616) : (rawL b).length ≤ b.length + 10 := by
  have := vint_length b.length h
  simp [rawL]
  omega
theorem coreL_length (n : Int) (hn : -9223372036854775808 ≤ n ∧ n ≤ 9223372036854775807) (b : List Int) (h : b.length < 18446744073709551616) : (coreL n b).length ≤ b.length + 20 := by
  have h1 := vint_length (zz n) (zz_lt n hn)
  have h2 := rawL_length b h
  simp only [coreL, List.length_append]
  omega
theorem bytes_append {a b : List Int} (ha : ∀ x ∈ a, 0 ≤ x ∧ x ≤ 255) (hb : ∀ x ∈ b, 0 ≤ x ∧ x ≤ 255) : ∀ x ∈ a ++ b, 0 ≤ x ∧ x ≤ 255 := by
  intro x hx
  rcases List.mem_append.1 hx with h | h
  · exact ha x h
  · exact hb x h
theorem rawL_byte (b : List Int) (hb : ∀ x ∈ b, 0 ≤ x ∧ x ≤ 255) : ∀ x ∈ rawL b, 0 ≤ x ∧ x ≤ 255 := bytes_append (vint_byte _) hb
theorem coreL_byte (n : Int) (b : List Int) (hb : ∀ x ∈ b, 0 ≤ x ∧ x ≤ 255) : ∀ x ∈ coreL n b, 0 ≤ x ∧ x ≤ 255 := bytes_append (vint_byte _) (rawL_byte b hb)
theorem frameL_byte (n : Int) (b : List Int) (hb : ∀ x ∈ b, 0 ≤ x ∧ x ≤ 255) : ∀ x ∈ frameL n b, 0 ≤ x ∧ x ≤ 255 := bytes_append (rawL_byte _ (coreL_byte n b hb)) (vint_byte _)
theorem frameL_length (n : Int) (hn : -9223372036854775808 ≤ n ∧ n ≤ 9223372036854775807) (b : List Int) (h : b.length < 9223372036854775808) : (frameL n b).length ≤ b.length + 40 := by
  have h1 := coreL_length n hn b (by omega)
  have h2 := rawL_length (coreL n b) (by omega)
  have h3 := vint_length _ (bytesN_lt entryS (coreL n b))
  simp only [frameL, List.length_append]
  omega

theorem mixL_ref (s w : Int) : bits .xor .u64 (IntKind.u64.wrap ((bits .xor .u64 s w) * 11400714819323198485)) (IntKind.u64.wrap (Int.tdiv (IntKind.u64.wrap ((bits .xor .u64 s w) * 11400714819323198485)) 4294967296)) = mixL s w := by
  unfold mixL
  generalize (bits .xor .u64 s w) * 11400714819323198485 = q
  have h : 0 ≤ IntKind.u64.wrap q ∧ IntKind.u64.wrap q < 18446744073709551616 := by rw [IntKind.wrap_u64]; omega
  generalize IntKind.u64.wrap q = a at h
  congr 1
  rw [Int.tdiv_eq_ediv_of_nonneg h.1, IntKind.wrap_u64]
  omega

theorem wv_head (b : Nat → Int) (i : Nat) : ∀ m, wv b i (m + 1) = b i + 256 * wv b (i + 1) m
  | 0 => by simp [wv]
  | m + 1 => by
    have h := wv_head b i m
    rw [wv, h, wv, Int.pow_succ, show i + 1 + m = i + (m + 1) by omega, Int.mul_add, ← Int.mul_assoc, ← Int.mul_assoc, Int.mul_comm (b (i + (m + 1)) * 256 ^ m) 256, ← Int.mul_assoc]
    omega

end Go.Proofs.Ytjnbbmiccbjjbaa.Ma
