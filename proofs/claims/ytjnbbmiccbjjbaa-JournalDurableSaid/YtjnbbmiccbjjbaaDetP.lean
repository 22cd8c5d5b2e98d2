/- Plain facts: the hash of bytes tells one byte; a frame with one byte turned is not accepted. -/
import Derived.Test.YtjnbbmiccbjjbaaPl7
namespace Go.Proofs.Ytjnbbmiccbjjbaa.Ma
open Go Go.RowKit

theorem shift_twice (x : Nat) (h : x < 18446744073709551616) : (x ^^^ (x >>> 32)) ^^^ ((x ^^^ (x >>> 32)) >>> 32) = x := by
  rw [Nat.shiftRight_xor_distrib, ← Nat.shiftRight_add, show x >>> (32 + 32) = 0 by rw [Nat.shiftRight_eq_div_pow]; exact Nat.div_eq_of_lt h, Nat.xor_zero, Nat.xor_assoc, Nat.xor_self, Nat.xor_zero]
theorem shift_inj {x y : Nat} (hx : x < 18446744073709551616) (hy : y < 18446744073709551616) (h : x ^^^ (x >>> 32) = y ^^^ (y >>> 32)) : x = y := by
  rw [← shift_twice x hx, h, shift_twice y hy]
theorem mul_back (q : Nat) (h : q < 18446744073709551616) : (q * 11400714819323198485 % 18446744073709551616) * 17428512612931826493 % 18446744073709551616 = q := by
  rw [Nat.mod_mul_mod, Nat.mul_assoc, Nat.mul_mod, show 11400714819323198485 * 17428512612931826493 % 18446744073709551616 = 1 from by decide, Nat.mul_one, Nat.mod_mod]
  exact Nat.mod_eq_of_lt h
theorem mul_inj {x y : Nat} (hx : x < 18446744073709551616) (hy : y < 18446744073709551616) (h : x * 11400714819323198485 % 18446744073709551616 = y * 11400714819323198485 % 18446744073709551616) : x = y := by
  rw [← mul_back x hx, h, mul_back y hy]

theorem xor_lt {x y : Nat} (hx : x < 18446744073709551616) (hy : y < 18446744073709551616) : x ^^^ y < 18446744073709551616 :=
  Nat.xor_lt_two_pow (n := 64) hx hy

theorem mixL_nat (s w : Nat) (hs : s < 18446744073709551616) (hw : w < 18446744073709551616) :
    mixL s w = ((((s ^^^ w) * 11400714819323198485 % 18446744073709551616) ^^^ (((s ^^^ w) * 11400714819323198485 % 18446744073709551616) >>> 32) : Nat) : Int) := by
  unfold mixL
  rw [bits_xor_u64_nat s w hs hw]
  have e : IntKind.u64.wrap (((s ^^^ w : Nat) : Int) * 11400714819323198485) = (((s ^^^ w) * 11400714819323198485 % 18446744073709551616 : Nat) : Int) := by
    generalize s ^^^ w = q
    rw [IntKind.wrap_u64]; omega
  rw [e]
  have hl : (s ^^^ w) * 11400714819323198485 % 18446744073709551616 < 18446744073709551616 := Nat.mod_lt _ (by decide)
  generalize (s ^^^ w) * 11400714819323198485 % 18446744073709551616 = a at hl
  have e2 : (a : Int) / (4294967296 : Int) = ((a >>> 32 : Nat) : Int) := by rw [Nat.shiftRight_eq_div_pow, show 2 ^ 32 = 4294967296 from rfl]; omega
  rw [e2, bits_xor_u64_nat a (a >>> 32) hl (by rw [Nat.shiftRight_eq_div_pow]; omega)]

theorem mixL_xor (s w s' w' : Nat) (hs : s < 18446744073709551616) (hw : w < 18446744073709551616) (hs' : s' < 18446744073709551616) (hw' : w' < 18446744073709551616) (h : mixL s w = mixL s' w') : s ^^^ w = s' ^^^ w' := by
  rw [mixL_nat s w hs hw, mixL_nat s' w' hs' hw'] at h
  have h1 := shift_inj (Nat.mod_lt _ (by decide)) (Nat.mod_lt _ (by decide)) (Int.ofNat_inj.1 h)
  exact mul_inj (xor_lt hs hw) (xor_lt hs' hw') h1

/-- A number of 64 bits. -/
def U64 (x : Int) : Prop := 0 ≤ x ∧ x < 18446744073709551616
theorem U64.mix (s w : Int) : U64 (mixL s w) := mixL_range s w
theorem mixL_left {s s' w : Int} (hs : U64 s) (hs' : U64 s') (hw : U64 w) (h : mixL s w = mixL s' w) : s = s' := by
  obtain ⟨a, rfl⟩ := Int.eq_ofNat_of_zero_le hs.1
  obtain ⟨b, rfl⟩ := Int.eq_ofNat_of_zero_le hs'.1
  obtain ⟨c, rfl⟩ := Int.eq_ofNat_of_zero_le hw.1
  have := mixL_xor a c b c (by have := hs.2; omega) (by have := hw.2; omega) (by have := hs'.2; omega) (by have := hw.2; omega) h
  have h2 := congrArg (· ^^^ c) this
  simp only [Nat.xor_assoc, Nat.xor_self, Nat.xor_zero] at h2
  rw [h2]
theorem mixL_right {s w w' : Int} (hs : U64 s) (hw : U64 w) (hw' : U64 w') (h : mixL s w = mixL s w') : w = w' := by
  obtain ⟨a, rfl⟩ := Int.eq_ofNat_of_zero_le hs.1
  obtain ⟨b, rfl⟩ := Int.eq_ofNat_of_zero_le hw.1
  obtain ⟨c, rfl⟩ := Int.eq_ofNat_of_zero_le hw'.1
  have := mixL_xor a b a c (by have := hs.2; omega) (by have := hw.2; omega) (by have := hs.2; omega) (by have := hw'.2; omega) h
  have h2 := congrArg (a ^^^ ·) this
  simp only [← Nat.xor_assoc, Nat.xor_self, Nat.zero_xor] at h2
  rw [h2]
theorem fold_u64 : ∀ (l : List Int) (s : Int), U64 s → U64 (l.foldl mixL s)
  | [], _, h => h
  | x :: l, s, _ => fold_u64 l (mixL s x) (U64.mix s x)
theorem fold_ne : ∀ (l : List Int) (s s' : Int), (∀ x ∈ l, U64 x) → U64 s → U64 s' → s ≠ s' → l.foldl mixL s ≠ l.foldl mixL s'
  | [], _, _, _, _, _, h => h
  | x :: l, s, s', hl, hs, hs', h => fold_ne l (mixL s x) (mixL s' x) (fun y hy => hl y (by simp [hy])) (U64.mix s x) (U64.mix s' x) (fun e => h (mixL_left hs hs' (hl x (by simp)) e))
/-- One element is another: so is the end. -/
theorem fold_set (l : List Int) (k : Nat) (hk : k < l.length) (z s : Int) (hl : ∀ x ∈ l, U64 x) (hz : U64 z) (hs : U64 s) (hne : z ≠ l[k]) : (l.set k z).foldl mixL s ≠ l.foldl mixL s := by
  have e1 : l = l.take k ++ l[k] :: l.drop (k + 1) := by rw [List.getElem_cons_drop, List.take_append_drop]
  have e2 : l.set k z = l.take k ++ z :: l.drop (k + 1) := List.set_eq_take_append_cons_drop .. |>.trans (if_pos hk)
  have hk2 := hl l[k] (List.getElem_mem hk)
  generalize l[k] = y at e1 hne hk2
  intro h
  rw [e2] at h
  rw [e1] at h
  simp only [List.foldl_append, List.foldl_cons] at h
  have hst := fold_u64 (l.take k) s hs
  have hdl : (l.take k).length = k := by rw [List.length_take]; omega
  have e3 : (l.take k ++ y :: l.drop (k + 1)).take k = l.take k := by rw [List.take_left' hdl]
  have e4 : (l.take k ++ y :: l.drop (k + 1)).drop (k + 1) = l.drop (k + 1) := by rw [← e1]
  rw [e3] at h
  first
  | exact fold_ne (l.drop (k + 1)) _ _ (fun x hx => hl x (List.mem_of_mem_drop hx)) (U64.mix _ _) (U64.mix _ _) (fun e => hne (mixL_right hst hz hk2 e)) h
  | (rw [e4] at h; exact fold_ne (l.drop (k + 1)) _ _ (fun x hx => hl x (List.mem_of_mem_drop hx)) (U64.mix _ _) (U64.mix _ _) (fun e => hne (mixL_right hst hz hk2 e)) h)

/-- The words of bytes, where one byte is another. -/
theorem wv_same (b b' : Nat → Int) (i : Nat) : ∀ m, (∀ t, t < m → b (i + t) = b' (i + t)) → wv b i m = wv b' i m
  | 0, _ => rfl
  | m + 1, h => by rw [wv, wv, wv_same b b' i m (fun t ht => h t (by omega)), h m (by omega)]
theorem wv_other (b b' : Nat → Int) (i j : Nat) : ∀ m, j < m → (∀ t, t < m → t ≠ j → b (i + t) = b' (i + t)) → b (i + j) ≠ b' (i + j) → wv b i m ≠ wv b' i m
  | 0, h, _, _ => by omega
  | m + 1, hj, h, hne => by
    intro e
    rw [wv, wv] at e
    have hp : (0 : Int) < 256 ^ m := Int.pow_pos (by decide)
    by_cases hm : j = m
    · subst hm
      rw [wv_same b b' i j (fun t ht => h t (by omega) (by omega))] at e
      have e2 : b (i + j) * 256 ^ j = b' (i + j) * 256 ^ j := by omega
      exact hne (Int.eq_of_mul_eq_mul_right (by omega) e2)
    · rw [h m (by omega) (fun e => hm e.symm)] at e
      exact wv_other b b' i j m (by omega) (fun t ht hn => h t (by omega) hn) hne (by omega)

theorem rdN_set (c : List Int) (j : Nat) (y : Int) (hj : j < c.length) (t : Nat) : rdN (c.set j y) t = if t = j then y else rdN c t := by
  unfold rdN
  rw [List.getD_eq_getElem?_getD, List.getElem?_set]
  by_cases h : j = t
  · subst h; simp [hj]
  · rw [if_neg h, if_neg (fun e => h e.symm), List.getD_eq_getElem?_getD]

theorem words_set (c : List Int) (j : Nat) (y : Int) (hj : j < c.length) (hc : ∀ x ∈ c, 0 ≤ x ∧ x ≤ 255) (hy : 0 ≤ y ∧ y ≤ 255) (hne : y ≠ c[j]) :
    ∃ z k, ∃ h : k < (wordsF (rdN c) c.length).length, U64 z ∧ z ≠ (wordsF (rdN c) c.length)[k] ∧ wordsF (rdN (c.set j y)) c.length = (wordsF (rdN c) c.length).set k z := by
  have hb := rdN_range c hc
  have hb' : ∀ t, 0 ≤ rdN (c.set j y) t ∧ rdN (c.set j y) t ≤ 255 := fun t => by
    rw [rdN_set c j y hj]
    split
    · exact hy
    · exact hb t
  have hlen := wordsF_length (rdN c) c.length
  have hk : j / 8 < (wordsF (rdN c) c.length).length := by rw [hlen]; omega
  refine ⟨wv (rdN (c.set j y)) (8 * (j / 8)) (min 8 (c.length - 8 * (j / 8))), j / 8, hk, wv_u64 _ hb' _ _ (by omega), ?_, ?_⟩
  · have e : (wordsF (rdN c) c.length)[j / 8] = wv (rdN c) (8 * (j / 8)) (min 8 (c.length - 8 * (j / 8))) := by simp [wordsF]
    rw [e]
    refine wv_other _ _ _ (j % 8) _ (by omega) (fun t ht hn => ?_) ?_
    · rw [rdN_set c j y hj, if_neg (by omega)]
    · rw [rdN_set c j y hj, if_pos (by omega), show 8 * (j / 8) + j % 8 = j by omega]
      unfold rdN
      rw [List.getD_eq_getElem?_getD, List.getElem?_eq_getElem hj]
      exact hne
  · refine List.ext_getElem (by rw [List.length_set, wordsF_length, wordsF_length]) (fun q h1 h2 => ?_)
    rw [List.getElem_set]
    split
    · rename_i e
      subst e
      simp [wordsF]
    · rename_i e
      simp only [wordsF, List.getElem_map, List.getElem_range]
      refine wv_same _ _ _ _ (fun t ht => ?_)
      rw [rdN_set c j y hj, if_neg (by omega)]

theorem words_u64 (c : List Int) (hc : ∀ x ∈ c, 0 ≤ x ∧ x ≤ 255) : ∀ x ∈ wordsF (rdN c) c.length, U64 x := wordsF_u64 _ (rdN_range c hc) _
theorem wrap_wrap (x : Int) (h : U64 x) : IntKind.u64.wrap (wrap64 x) = x := by
  have := h.1
  have := h.2
  rw [IntKind.wrap_u64]
  unfold wrap64
  omega
theorem sum_words (s : List Int) (n : Nat) (l : List Int) (hl : ∀ x ∈ l, U64 x) (m : Nat) (hm : m < 9223372036854775808) :
    sumL s n (l.map (fun x => wrap64 x) ++ [(m : Int)]) = mixL ((l ++ [(m : Int)]).foldl mixL (mixL (mixL (s.foldl mixL 0) n) ((l.length + 1 : Nat) : Int))) 0 := by
  have e1 : (l.map (fun x => wrap64 x) ++ [(m : Int)]).length = l.length + 1 := by simp
  have e2 : (l.map (fun x => wrap64 x) ++ [(m : Int)]).map (fun x => IntKind.u64.wrap x) = l ++ [(m : Int)] := by
    rw [List.map_append, List.map_map]
    congr 1
    · conv => rhs; rw [← List.map_id l]
      exact List.map_congr_left (fun x hx => wrap_wrap x (hl x hx))
    · simp only [List.map_cons, List.map_nil]
      rw [IntKind.wrap_u64]
      congr 1
      omega
  unfold sumL
  rw [e1, e2]

/-- The hash tells one byte. -/
theorem bytesN_ne (s : ByteArray) (c : List Int) (j : Nat) (y : Int) (hj : j < c.length) (hl : c.length < 9223372036854775808) (hc : ∀ x ∈ c, 0 ≤ x ∧ x ≤ 255) (hy : 0 ≤ y ∧ y ≤ 255) (hne : y ≠ c[j]) : bytesN s (c.set j y) ≠ bytesN s c := by
  intro e
  have e1 : bytesH s (c.set j y) = bytesH s c := by rw [bytesN_eq, bytesN_eq, e]
  unfold bytesH at e1
  rw [List.length_set] at e1
  obtain ⟨z, k, hk, hz, hzn, hw⟩ := words_set c j y hj hc hy hne
  have hu := words_u64 c hc
  rw [hw] at e1
  have hu' : ∀ x ∈ (wordsF (rdN c) c.length).set k z, U64 x := by
    intro x hx
    rcases List.mem_or_eq_of_mem_set hx with hx | rfl
    · exact hu x hx
    · exact hz
  rw [sum_words _ _ _ hu' _ hl, sum_words _ _ _ hu _ hl, List.length_set] at e1
  generalize wordsF (rdN c) c.length = W at hk hzn hu hu' e1
  have hm : U64 (c.length : Int) := ⟨by omega, by omega⟩
  have hall : ∀ x ∈ W ++ [(c.length : Int)], U64 x := by
    intro x hx
    rcases List.mem_append.1 hx with hx | hx
    · exact hu x hx
    · rw [List.mem_singleton.1 hx]; exact hm
  have hs0 := U64.mix (mixL ((wordsF (bsN s) s.size).foldl mixL 0) s.size) ((W.length + 1 : Nat) : Int)
  generalize mixL (mixL ((wordsF (bsN s) s.size).foldl mixL 0) s.size) ((W.length + 1 : Nat) : Int) = s0 at e1 hs0
  have h1 := mixL_left (fold_u64 _ s0 hs0) (fold_u64 _ s0 hs0) ⟨by decide, by decide⟩ e1
  have hk2 : k < (W ++ [(c.length : Int)]).length := by rw [List.length_append]; omega
  have h2 : W.set k z ++ [(c.length : Int)] = (W ++ [(c.length : Int)]).set k z := by rw [List.set_append_left _ _ hk]
  rw [h2] at h1
  refine fold_set (W ++ [(c.length : Int)]) k hk2 z s0 hall hz hs0 ?_ h1
  rw [List.getElem_append_left hk]
  exact hzn

/-- A frame with one byte behind its first length turned is no frame's beginning. -/
theorem frame_turned (own x : List Int) (p : Nat) (y : Int) (hb : ∀ z ∈ own, 0 ≤ z ∧ z ≤ 255) (hl : own.length ≤ 1099511627776) (hx : x.length ≤ 1099511627776) (hp : (vint (coreL 0 own).length).length ≤ p) (hp2 : p < (frameL 0 own).length) (hy : 0 ≤ y ∧ y ≤ 255) (hne : y ≠ (frameL 0 own)[p]) :
    ¬ frameL 0 x <+: (frameL 0 own).set p y := by
  rintro ⟨t, ht⟩
  have hc := coreL_byte 0 own hb
  have hcl := coreL_length 0 (by decide) own (by omega)
  have hcl' := coreL_length 0 (by decide) x (by omega)
  have hh := bytesN_lt entryS (coreL 0 own)
  have hh' := bytesN_lt entryS (coreL 0 x)
  have hdiff := fun q hq hn => bytesN_ne entryS (coreL 0 own) q y hq (by omega) hc hy hn
  have ef : frameL 0 own = vint (coreL 0 own).length ++ (coreL 0 own ++ vint (bytesN entryS (coreL 0 own))) := by simp [frameL, rawL]
  have ef' : frameL 0 x = vint (coreL 0 x).length ++ (coreL 0 x ++ vint (bytesN entryS (coreL 0 x))) := by simp [frameL, rawL]
  rw [ef'] at ht
  have hpf : p < (vint (coreL 0 own).length ++ (coreL 0 own ++ vint (bytesN entryS (coreL 0 own)))).length := by rw [← ef]; exact hp2
  have hne' : y ≠ (vint (coreL 0 own).length ++ (coreL 0 own ++ vint (bytesN entryS (coreL 0 own))))[p] := by
    intro e
    apply hne
    rw [e]
    congr 1
    exact ef.symm
  rw [ef] at ht
  clear hne hp2 ef ef'
  have hcore : coreL 0 x = coreL 0 own → bytesN entryS (coreL 0 x) = bytesN entryS (coreL 0 own) := fun e => by rw [e]
  have hset : ∀ q, coreL 0 x = (coreL 0 own).set q y → bytesN entryS (coreL 0 x) = bytesN entryS ((coreL 0 own).set q y) := fun q e => by rw [e]
  generalize bytesN entryS (coreL 0 x) = h' at ht hh' hcore hset
  generalize coreL 0 x = c' at ht hcl' hcore hset
  generalize bytesN entryS (coreL 0 own) = h at ht hh hpf hne' hcore hdiff
  generalize coreL 0 own = c at *
  rw [List.set_append_right _ _ hp, List.append_assoc] at ht
  have h1 := congrArg (fun l => rdUint l 0) ht
  simp only [List.append_assoc] at h1
  rw [rdUint_vint _ (by omega), rdUint_vint _ (by omega)] at h1
  have hn : c'.length = c.length := congrArg Prod.fst h1
  have hR : c' ++ (vint h' ++ t) = (c ++ vint h).set (p - (vint c.length).length) y := congrArg (fun z => z.2.1) h1
  rw [List.getElem_append_right hp] at hne'
  have hq : p - (vint c.length).length < (c ++ vint h).length := by rw [List.length_append] at hpf; omega
  suffices key : ∀ (q : Nat) (hq : q < (c ++ vint h).length), c' ++ (vint h' ++ t) = (c ++ vint h).set q y → y ≠ (c ++ vint h)[q] → False from key _ hq hR hne'
  clear hq hR hne'
  intro q hq hR hne'
  by_cases hqc : q < c.length
  · rw [List.set_append_left _ _ hqc] at hR
    rw [List.getElem_append_left hqc] at hne'
    obtain ⟨e1, e2⟩ := List.append_inj hR (by rw [List.length_set]; exact hn)
    have h2 := congrArg (fun l => rdUint l 0) e2
    have h3 : rdUint (vint h) 0 = (h, [], 0) := by have := rdUint_vint h hh []; rwa [List.append_nil] at this
    simp only [rdUint_vint h' hh', h3] at h2
    have h4 : h' = h := congrArg Prod.fst h2
    exact hdiff q hqc hne' (by rw [← hset q e1, h4])
  · have hqc' : c.length ≤ q := by omega
    rw [List.set_append_right _ _ hqc'] at hR
    rw [List.getElem_append_right hqc'] at hne'
    obtain ⟨e1, e2⟩ := List.append_inj hR hn
    have h4 := hcore e1
    subst h4
    have hlen := congrArg List.length e2
    rw [List.length_append, List.length_set] at hlen
    have ht0 : t = [] := List.eq_nil_of_length_eq_zero (by omega)
    subst ht0
    rw [List.append_nil] at e2
    have hr : q - c.length < (vint h').length := by rw [List.length_append] at hq; omega
    have h5 : (vint h')[q - c.length] = ((vint h').set (q - c.length) y)[q - c.length]'(by rw [List.length_set]; exact hr) := by congr 1
    rw [List.getElem_set_self] at h5
    exact hne' h5.symm

/-- Scan takes nothing of it. -/
theorem scan_turned (own : List Int) (p : Nat) (y : Int) (hb : ∀ z ∈ own, 0 ≤ z ∧ z ≤ 255) (hl : own.length ≤ 1000000000) (hp : (vint (coreL 0 own).length).length ≤ p) (hp2 : p < (frameL 0 own).length) (hy : 0 ≤ y ∧ y ≤ 255) (hne : y ≠ (frameL 0 own)[p]) :
    scanR (((frameL 0 own).set p y).length + 1) 0 0 ((frameL 0 own).set p y) = [] := by
  have hfl := frameL_length 0 (by decide) own (by omega)
  refine scanR_bad _ _ _ _ ?_
  rw [List.drop_zero]
  have hr := recL_len ((frameL 0 own).set p y)
  rw [List.length_set] at hr
  exact frame_turned own _ p y hb (by omega) (by omega) hp hp2 hy hne
/-- And all of the frame as it is. -/
theorem scan_one (own : List Int) (hl : own.length ≤ 1000000000) : (scanR ((frameL 0 own).length + 1) 0 0 (frameL 0 own)).map Prod.fst = [own] ∧ ((scanR ((frameL 0 own).length + 1) 0 0 (frameL 0 own)).getLast?.map Prod.snd).getD 0 = ((frameL 0 own).length : Int) := by
  have hfl := frameL_length 0 (by decide) own (by omega)
  have h := scanR_frames [own] ((frameL 0 own).length + 1) 0 0 (frameL 0 own) (by
    rw [framesL_cons, framesL_nil, List.append_nil, List.drop_zero, Nat.zero_add]
    show frameL 0 own = frameL 0 own ++ (frameL 0 own).drop (frameL 0 own).length
    rw [List.drop_length, List.append_nil]) (by omega) (by simp) (by simp) (Nat.zero_le _)
  obtain ⟨pre, h1, h2, h3⟩ := h
  have he : (framesL 0 [own]).length = (frameL 0 own).length := by rw [framesL_cons, framesL_nil, List.append_nil]; rfl
  rw [h1, scanR_end _ _ _ _ (by rw [he]; omega), List.append_nil]
  refine ⟨h2, ?_⟩
  rw [he, Nat.zero_add] at h3
  exact h3

end Go.Proofs.Ytjnbbmiccbjjbaa.Ma
