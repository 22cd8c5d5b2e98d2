/- Package disk: Crash. -/
import Derived.Test.YtjnbbmiccbjjbaaFiles
import Derived.Deep.RegionHeld3
import Derived.Lib.MinMax
import Derived.StillTailTactics
namespace Go.Proofs.Ytjnbbmiccbjjbaa.Disk
open Go.RowKit Go.Proofs Go.Proofs.Ytjnbbmiccbjjbaa.Ma Go.Proofs.Ytjnbbmiccbjjbaa.Wire Go.Proofs.Ytjnbbmiccbjjbaa.Rdr Go.Proofs.Ytjnbbmiccbjjbaa.MapI Go.Proofs.YtjnbbmiccbjjbaaW.PrintWords Go.Proofs.YtjnbbmiccbjjbaaW.PrintLast

/-- A pointer to a byte of a block. -/
def encP (p : Nat × Nat) : Value := .pointer (some ⟨p.1, p.2, none⟩)
theorem encP_one (p : Nat × Nat) : (encP p).oneCell' = true := rfl
abbrev KP8 : Kd (Nat × Nat) := Kd.scalar encP encP_one
theorem infoP : (Try.prog.info? 84).map (fun i => (i.zero, i.size, i.bytes)) = some (some (.pointer none), 1, 8) := by kernel_rfl

/-- The files whose number is in S lie in blocks of their own: file n in block G n. -/
def FlsG (m : List (Int × Value)) (S : List Int) (G : Int → Nat) (lo : Nat) (D : Nat → Prop) : Prop :=
  (∀ p ∈ m, p.1 ∈ S → (∃ l c x, p.2 = .agg #[.slice (some ⟨G p.1, 0, none⟩) l c, x]) ∧ lo ≤ G p.1 ∧ D (G p.1)) ∧ ∀ p ∈ m, ∀ q ∈ m, p.1 ∈ S → q.1 ∈ S → p.1 ≠ q.1 → G p.1 ≠ G q.1

/-- What holds of a crash when k files are done. -/
def CrSt (w1 : World) (D : Nat → Prop) (B bm : Nat) (d : Dsk) (keep : List Int) (k : Nat) (u : Value) (W : World) : Prop :=
  ∃ D' m G, DkM W D' B bm m { d with fs := cutN keep (keysS d.fs) d.fs k } ∧ (∀ j, D j → D' j) ∧ (∀ j, D' j → D j ∨ w1.heap.size ≤ j) ∧ KD D w1 W ∧
    KP8.R 84 W w1.heap.size (fun j => ¬ D' j) u ((looseL (cutN keep (keysS d.fs) d.fs k) ((keysS d.fs).take k)).map fun q => (G q.1, q.2)) ∧ FlsG m ((keysS d.fs).take k) G w1.heap.size D'

theorem setMM_mem {m : List (Int × Value)} {k : Int} {v : Value} {n : Nat} {p : Int × Value} (h : p ∈ setMM m k v n) : (p = (k, v) ∧ n ≠ 0) ∨ (p ∈ m ∧ p.1 ≠ k) := by
  unfold setMM at h
  split at h
  · obtain ⟨h1, h2⟩ := delL_mem.1 h
    rcases putL_mem h1 with rfl | h
    · exact absurd rfl h2
    · exact .inr h
  · rename_i hn
    rcases putL_mem h with rfl | h
    · exact .inl ⟨rfl, hn⟩
    · exact .inr h

/-- One file more lies in a block of its own. -/
theorem FlsG.more {m : List (Int × Value)} {S : List Int} {G : Int → Nat} {lo : Nat} {D : Nat → Prop} (h : FlsG m S G lo D) {n : Int} (hn : n ∉ S) {g : Nat} (hg : lo ≤ g) (hnew : ∀ j, D j → j ≠ g) {l c : Nat} {x : Value} {N : Nat} {A : Option Addr} (hA : N ≠ 0 → A = some ⟨g, 0, none⟩) :
    FlsG (setMM m n (.agg #[.slice A l c, x]) N) (S ++ [n]) (fun j => if j = n then g else G j) lo (fun j => D j ∨ j = g) := by
  refine ⟨fun p hp hs => ?_, fun p hp q hq hs1 hs2 hne => ?_⟩
  · rcases setMM_mem hp with ⟨rfl, h0⟩ | ⟨hp, hne⟩
    · simp only [if_pos]
      exact ⟨⟨l, c, x, by rw [hA h0]⟩, hg, by simp⟩
    · have hs' : p.1 ∈ S := (List.mem_append.1 hs).elim id (fun e => absurd (List.mem_singleton.1 e) hne)
      simp only [if_neg hne]
      obtain ⟨h1, h2, h3⟩ := h.1 p hp hs'
      exact ⟨h1, h2, .inl h3⟩
  · rcases setMM_mem hp with ⟨rfl, h0⟩ | ⟨hp, hnp⟩
    · rcases setMM_mem hq with ⟨rfl, _⟩ | ⟨hq, hnq⟩
      · exact absurd rfl hne
      · have hs' : q.1 ∈ S := (List.mem_append.1 hs2).elim id (fun e => absurd (List.mem_singleton.1 e) hnq)
        simp only [if_pos, if_neg hnq]
        exact fun e => hnew _ (h.1 q hq hs').2.2 e.symm
    · have hs1' : p.1 ∈ S := (List.mem_append.1 hs1).elim id (fun e => absurd (List.mem_singleton.1 e) hnp)
      rcases setMM_mem hq with ⟨rfl, _⟩ | ⟨hq, hnq⟩
      · simp only [if_pos, if_neg hnp]
        exact hnew _ (h.1 p hp hs1').2.2
      · have hs2' : q.1 ∈ S := (List.mem_append.1 hs2).elim id (fun e => absurd (List.mem_singleton.1 e) hnq)
        simp only [if_neg hnp, if_neg hnq]
        exact h.2 p hp q hq hs1' hs2' hne

theorem len_used : ∀ {fs : List (Int × Fl)}, (∀ p ∈ fs, p.2.b ≠ []) → fs.length ≤ usedL fs
  | [], _ => Nat.zero_le _
  | p :: fs, h => by
    have h1 := len_used (fs := fs) (fun q hq => h q (List.mem_cons_of_mem _ hq))
    have h3 : 0 < p.2.b.length := List.length_pos_iff.2 (h p List.mem_cons_self)
    rw [usedL_cons, List.length_cons]
    omega

theorem clone_calls_n (A : Option Addr) (cap n : Nat) (l : List Int) (hn : l.length = n) (w : World) (hC : Kd.C (Kd.int .u8) w A l.length l) (hl : l.length ≤ 140737488355328) :
    Calls Try.prog 44 #[.slice A n cap] w fun e w' => ∃ v, e = .returned v ∧ Kd.R (Kd.int .u8) 5 w' w.heap.size (fun _ => True) v l ∧ Below w.heap.size w w' := by
  subst hn
  exact clone_calls A cap l w hC hl
theorem set_callsM_n (D : Nat → Prop) (B bm : Nat) (m : List (Int × Value)) (d : Dsk) (k : Int) (hk : -9223372036854775808 ≤ k ∧ k ≤ 9223372036854775807) (A : Option Addr) (c l : Nat) (f : Fl) (hf : f.b.length = l) (hc : l ≤ c) (w : World) (h : DkM w D B bm m d) (hr : Row8 w D A f.b) :
    Calls Try.prog 45 #[.pointer (some ⟨B, 0, none⟩), .int .i64 k, .agg #[.slice A l c, .int .i64 f.dur]] w fun e w' => e = .returned (.tuple #[]) ∧ DkM w' D B bm (setMM m k (.agg #[.slice A l c, .int .i64 f.dur]) l) { d with fs := setF d.fs k f } ∧ KD D w w' := by
  subst hf
  exact set_callsM D B bm m d k hk A c f hc w h hr
theorem Fls.more {W : World} {D D' : Nat → Prop} {m : List (Int × Value)} {fs : List (Int × Fl)} (h : Fls W D m fs) (hD : ∀ k, D k → D' k) : Fls W D' m fs := h.same hD (fun _ _ _ _ => rfl)

/-- Behind the store of one byte: the files, one bit of one being another. -/
theorem Fls.flip {W : World} {D : Nat → Prop} {S : List Int} {G : Int → Nat} {lo : Nat} (n : Int) (j mm : Nat) (y : Int) : ∀ {m : List (Int × Value)} {fs : List (Int × Fl)}, Fls W D m fs → (∀ p ∈ m, ∃ l c x, p.2 = .agg #[.slice (some ⟨G p.1, 0, none⟩) l c, x]) → (∀ p ∈ m, p.1 ≠ n → G p.1 ≠ G n) → (∀ p ∈ fs, p.1 = n → bitB (p.2.b.getD j 0) mm = y) → Fls (W.setCell ⟨G n, j, none⟩ (.int .u8 y)) D m (flipF fs n j mm)
  | [], [], _, _, _, _ => trivial
  | (k, v) :: m, (k', f) :: fs, ⟨h1, ⟨A, c, h2, h3, h4⟩, h5⟩, hA, hG, hy => by
    subst h1
    have ih := Fls.flip (S := S) (lo := lo) n j mm y h5 (fun p hp => hA p (List.mem_cons_of_mem _ hp)) (fun p hp => hG p (List.mem_cons_of_mem _ hp)) (fun p hp => hy p (List.mem_cons_of_mem _ hp))
    obtain ⟨l, c', x, e⟩ := hA (k, v) List.mem_cons_self
    simp only at e
    rw [h2] at e
    injection e with e
    have e0 : Value.slice A f.b.length c = .slice (some ⟨G k, 0, none⟩) l c' := by
      have := congrArg (fun a : Array Value => a[0]?) e
      simpa using this
    injection e0 with e0
    subst e0
    unfold flipF at ih ⊢
    rw [List.map_cons]
    by_cases hk : k = n
    · subst hk
      rw [if_pos rfl]
      refine ⟨rfl, ⟨some ⟨G k, 0, none⟩, c, by simp only [List.length_set]; exact h2, by simp only [List.length_set]; exact h3, ?_⟩, ih⟩
      rw [hy (k, f) List.mem_cons_self rfl]
      rcases h4 with h4 | ⟨g, o, cells, e1, hg, hb, hc⟩
      · refine .inl ?_
        simp only [h4]
        rfl
      · injection e1 with e1
        injection e1 with e1 e2
        subst e1 e2
        refine .inr ⟨G k, 0, _, rfl, hg, heap_set hb j (.int .u8 y), fun i z hi => ?_⟩
        simp only at hi
        rw [List.getElem?_set] at hi
        rw [Nat.zero_add]
        by_cases hij : j = i
        · subst hij
          rw [if_pos rfl] at hi
          split at hi
          · rename_i hlt
            have h6 := hc j f.b[j] (by rw [List.getElem?_eq_getElem hlt])
            rw [Nat.zero_add] at h6
            have h7 := (Array.getElem?_eq_some_iff.1 h6).1
            injection hi with hi
            rw [← hi]
            simp [h7]
          · cases hi
        · rw [if_neg hij] at hi
          have h6 := hc i z hi
          rw [Nat.zero_add] at h6
          rw [← h6]
          simp [hij]
    · rw [if_neg hk]
      have hne := hG (k, v) List.mem_cons_self hk
      refine ⟨rfl, ⟨some ⟨G k, 0, none⟩, c, h2, h3, ?_⟩, ih⟩
      rcases h4 with h4 | ⟨g, o, cells, e1, hg, hb, hc⟩
      · exact .inl h4
      · injection e1 with e1
        injection e1 with e1 e2
        subst e1 e2
        exact .inr ⟨G k, 0, cells, rfl, hg, (Below.heap_setCell W ⟨G n, j, none⟩ _ (G k) hne).trans hb, hc⟩
  | [], _ :: _, h, _, _, _ => h.elim
  | _ :: _, [], h, _, _, _ => h.elim

theorem Fls.byte {W : World} {D : Nat → Prop} {G : Int → Nat} : ∀ {m : List (Int × Value)} {fs : List (Int × Fl)}, Fls W D m fs → (∀ p ∈ m, ∃ l c x, p.2 = .agg #[.slice (some ⟨G p.1, 0, none⟩) l c, x]) → ∀ {k : Int} {f : Fl}, (k, f) ∈ fs → ∀ j (hj : j < f.b.length), ∃ cells, W.heap[G k]? = some (.cells cells 5 (0, 0)) ∧ cells[j]? = some (.int .u8 f.b[j])
  | (k, v) :: m, (k', f) :: fs, ⟨h1, ⟨A, c, h2, h3, h4⟩, h5⟩, hA, k2, f2, hm, j, hj => by
    subst h1
    rcases List.mem_cons.1 hm with e | hm
    · injection e with e1 e2
      subst e1 e2
      obtain ⟨l, c', x, e⟩ := hA (k2, v) List.mem_cons_self
      simp only at e
      rw [h2] at e
      injection e with e
      have e0 : Value.slice A f2.b.length c = .slice (some ⟨G k2, 0, none⟩) l c' := by
        have := congrArg (fun a : Array Value => a[0]?) e
        simpa using this
      injection e0 with e0
      subst e0
      rcases h4 with h4 | ⟨g, o, cells, e1, hg, hb, hc⟩
      · rw [h4] at hj
        exact absurd hj (Nat.not_lt_zero _)
      · injection e1 with e1
        injection e1 with e1 e2
        subst e1 e2
        refine ⟨cells, hb, ?_⟩
        have := hc j f2.b[j] (by rw [List.getElem?_eq_getElem hj])
        rwa [Nat.zero_add] at this
    · exact Fls.byte h5 (fun p hp => hA p (List.mem_cons_of_mem _ hp)) hm j hj
  | [], [], _, _, _, _, h, _, _ => by cases h
  | [], _ :: _, h, _, _, _, _, _, _ => h.elim
  | _ :: _, [], h, _, _, _, _, _, _ => h.elim

/-- What holds in the loop over a file's loose bytes: world w3 stood at its head, u0 was the row. -/
def InSt (w3 : World) (base : Nat) (u0 : Value) (L0 : List (Nat × Nat)) (g a : Nat) (ok : Nat → Prop) (l : Nat) (u : Value) (W : World) : Prop :=
  KP8.R 84 W base ok u (L0 ++ (List.range' a (l - a)).map fun j => (g, j)) ∧ (∀ k, k < w3.heap.size → some k ≠ u0.ownBlock → W.heap[k]? = w3.heap[k]?) ∧ (u.ownBlock = u0.ownBlock ∨ ∃ b, u.ownBlock = some b ∧ w3.heap.size ≤ b) ∧ w3.heap.size ≤ W.heap.size ∧ Below base w3 W

theorem rng_snoc {α : Type} (f : Nat → α) (a l : Nat) (h : a ≤ l) : (List.range' a (l + 1 - a)).map f = (List.range' a (l - a)).map f ++ [f l] := by
  rw [show l + 1 - a = (l - a) + 1 by omega, List.range'_1_concat, List.map_append]
  simp
  congr 1
  omega

set_option maxRecDepth 100000 in
set_option maxHeartbeats 8000000 in
theorem crash_calls (D : Nat → Prop) (B : Nat) (d : Dsk) (hd : DOk d) (Ak : Option Addr) (ck : Nat) (keep : List Int) (hkr : ∀ x ∈ keep, -9223372036854775808 ≤ x ∧ x ≤ 9223372036854775807) (hkl : keep.length ≤ 140737488351232) (flip : Int) (hfl : -9223372036854775808 ≤ flip ∧ flip ≤ 9223372036854775807)
    (w : World) (h : Dk w D B d) (hkeep : ∀ W, KD D w W → Kd.C (Kd.int .i64) W Ak keep.length keep) :
    Calls Try.prog 18 #[.pointer (some ⟨B, 0, none⟩), .slice Ak keep.length ck, .int .i64 flip] w fun e w' => e = .returned (.tuple #[]) ∧ DkS D B w (crashD d keep flip) w' := by
  have _ := hkl
  have _ := hfl
  have hfl2 : d.fs.length ≤ 16777216 := by
    have h1 := len_used (fun p hp => (hd.file p hp).2.1)
    have := hd.used'
    omega
  have hks : (keysS d.fs).Nodup := keysS_nodup hd.nodup
  have hkrg := keysS_range hd
  have hkn := keysS_len d.fs
  have HFI := Lib.hid (files_calls D B d hfl2 w h)
  have HOK := Lib.hid (hd.cutN keep (keysS d.fs) hkrg)
  have HSUC := Lib.hid (fun i (hi : i < (keysS d.fs).length) => cutN_succ (keep := keep) (fs := d.fs) hi)
  have HLS := Lib.hid (fun i (hi : i < (keysS d.fs).length) => looseL_succ (keep := keep) hks (fs := d.fs) hi)
  have HKM := Lib.hid (fun n (h : n ∈ d.fs.map Prod.fst) => (keysS_mem d.fs n).2 h)
  have HKS := Lib.hid hks
  have HKR := Lib.hid hkrg
  have H := Lib.hid h
  have HKP := Lib.hid hkeep
  have HKR2 := Lib.hid hkr
  clear hks hkrg h hkeep hkr
  go_enter Try.func18, Try.ntmps18
  go_wp2_with fail
  refine HFI.out.mono ?_
  rintro e w1 ⟨vf, rfl, hR1, hB1⟩
  obtain ⟨Af, cf, rfl, hcf, _⟩ := Kd.R_reads hR1
  obtain ⟨bm, m0, hDM⟩ := H.out.grow hB1
  have hRf : Kd.R (Kd.int .i64) 3 w1 w.heap.size (fun k => w.heap.size ≤ k ∧ k < w1.heap.size) (.slice Af (keysS d.fs).length cf) (keysS d.fs) := Kd.R_mono (Kd.R_bound hR1) (fun k hk => ⟨hk.2.1, hk.2.2.1⟩)
  have hltD := H.out.lt
  have HFR := Lib.hid (fun (W : World) (hk : KD D w1 W) => Kd.R_step (w1 := W) hRf (fun k ho hlt => hk.block k hlt (fun e => by have := hltD k e; omega)))
  have HKW := Lib.hid (fun (W : World) (hk : KD D w1 W) => HKP.out W ((KD.of_below hB1).trans hk))
  have HB1 := Lib.hid hB1
  have hst : CrSt w1 D B bm d keep 0 (.slice none 0 0) w1 :=
    ⟨D, m0, fun _ => 0, hDM, fun _ h => h, fun _ h => .inl h, KD.refl _ _, Kd.R_nil _ _ _ _ _, (fun p _ hs => by cases hs), (fun p _ q _ hs => by cases hs)⟩
  have HST := Lib.hid hst
  have HKL := Lib.hid hkn
  have hfn : (keysS d.fs).length ≤ 16777216 := by omega
  have HDD := Lib.hid hd
  generalize hksd : keysS d.fs = ks at *
  have HKSD := Lib.hid hksd
  clear hR1 hDM hRf hB1 hst hkn hksd hd HFI HKP
  go_wp2
  go_loopw [6, 17] (fun u i wr => ∃ k : Nat, i = .int .i64 k ∧ k ≤ ks.length ∧ Hid (CrSt w1 D B bm d keep k u wr)) (fun _ i _ => ks.length - (intOf i).toNat)
  case atStart => exact ⟨0, rfl, Nat.zero_le _, HST⟩
  case round =>
    obtain ⟨wo, rfl⟩ : ∃ wo : World, wo = wr := ⟨_, rfl⟩
    obtain ⟨u, rfl⟩ : ∃ u : Value, u = u6 := ⟨_, rfl⟩
    obtain ⟨k, rfl, hk, hst⟩ := hrel
    by_cases hlt : k < ks.length
    · obtain ⟨D', m, G, hDM, hsub, hnew, hkd, hRL, hG⟩ := hst.out
      rw [HKSD.out] at hDM hRL hG
      obtain ⟨Afn, e1, hcells⟩ : ∃ ad, Af = some ad ∧ ∀ W, KD D w1 W → W.cell? (ad.add k) = some (.int .i64 ks[k]) := by
        obtain ⟨_, _, h3⟩ := (Kd.R_reads' (HFR.out w1 (KD.refl _ _))).2.2
        obtain ⟨ad, e, _⟩ := h3 (by omega)
        refine ⟨ad, e, fun W hW => ?_⟩
        obtain ⟨_, _, h4⟩ := (Kd.R_reads' (HFR.out W hW)).2.2
        obtain ⟨ad', e', h5⟩ := h4 (by omega)
        rw [e] at e'
        injection e' with e'
        subst e'
        obtain ⟨cs, hl, hK, hc⟩ := h5 k ks[k] (by rw [List.getElem?_eq_getElem hlt])
        simp only [Kd.int, Kd.scalar] at hK hc
        subst hK
        simpa using hc 0 _ rfl
      subst e1
      obtain ⟨hb0, hIM, hFl, hDB, hDbm, hDlt⟩ := hDM
      have hnr := HKR.out ks[k] (List.getElem_mem hlt)
      obtain ⟨Aq, cq, hv, hlc, hrow⟩ := hFl.look ks[k]
      have hok := HOK.out k
      have hat := hok.at ks[k]
      have hlen := hok.len ks[k]
      simp only at hat hlen
      have hlook := look_run (P := Try.prog) Try.underlying74 Try.underlying3 hIM (zero_file wo) ks[k] (by omega)
      rw [hv] at hlook
      have hsuc := HSUC.out k hlt
      have hls := HLS.out k hlt
      have hc1 := loose1_cut keep k ks[k] (cutN keep ks d.fs k) hat.1
      rw [← hsuc] at hc1
      have hsuc2 : cutN keep ks d.fs (k + 1) = setF (cutN keep ks d.fs k) ks[k] (cutF (fileAt (cutN keep ks d.fs k) ks[k]) (kI keep k ((fileAt (cutN keep ks d.fs k) ks[k]).b.length - (fileAt (cutN keep ks d.fs k) ks[k]).dur))) := hsuc
      have hnin : ks[k] ∉ ks.take k := by
        intro hm
        obtain ⟨j, hj, e2⟩ := List.mem_iff_getElem.1 hm
        rw [List.length_take] at hj
        rw [List.getElem_take] at e2
        exact List.pairwise_iff_getElem.1 HKS.out j k (by omega) hlt (by omega) e2
      have hkk : ks.take (k + 1) = ks.take k ++ [ks[k]] := List.take_succ_eq_append_getElem hlt
      have hLb := looseL_bound (d := { d with fs := cutN keep ks d.fs k }) hok (HKS.out.sublist (List.take_sublist k ks))
      simp only at hLb
      have hcl := hcells wo hkd
      clear hsuc
      generalize fileAt (cutN keep ks d.fs k) ks[k] = f at *
      generalize ks[k] = n at *
      obtain ⟨fb, fd⟩ := f
      simp only at *
      obtain ⟨dn, rfl⟩ := Int.eq_ofNat_of_zero_le hat.1.1
      have hkI := kI_range keep k ((fb.length : Int) - (dn : Int)) (by omega)
      obtain ⟨kn, hkn2⟩ := Int.eq_ofNat_of_zero_le hkI.1
      obtain ⟨t, ht⟩ : ∃ t, t = dn + kn := ⟨_, rfl⟩
      have htl : t ≤ fb.length := by omega
      have hT : (fb.take t).length = t := by rw [List.length_take]; omega
      have hcutf : cutF ⟨fb, (dn : Int)⟩ (kn : Int) = ⟨fb.take t, (dn : Int)⟩ := by
        unfold cutF
        simp only
        rw [ht]
        congr 1
      rw [hkn2, hcutf] at hc1 hsuc2
      simp only at hc1
      rw [hT] at hc1
      have hcut := (Cut.cut_run Aq cq fb t htl hlc .i64 wo (hrow.c (by omega))).1
      rw [hT] at hcut
      have HRT := Lib.hid (hrow.take t)
      generalize hTT : fb.take t = T at hT hsuc2 HRT
      have HB0 := Lib.hid hb0
      have HIM := Lib.hid hIM
      have HFL := Lib.hid hFl
      have HDB := Lib.hid hDB
      have HDBM := Lib.hid hDbm
      have HDL := Lib.hid hDlt
      have HSUB := Lib.hid hsub
      have HNEW := Lib.hid hnew
      have HKD := Lib.hid hkd
      have HRL := Lib.hid hRL
      have HG := Lib.hid hG
      have HLS := Lib.hid hls
      have HC1 := Lib.hid hc1
      have HS2 := Lib.hid hsuc2
      have HNI := Lib.hid hnin
      have HKK := Lib.hid hkk
      have HLB := Lib.hid hLb
      have HT := Lib.hid hT
      have HCT := Lib.hid (fun (W : World) (hb : Below wo.heap.size wo W) => Kd.C_below (HRT.out.c (by rw [hT]; omega)) hb)
      have c0 := cell_of hb0 0
      have hF0 := cell_of (World.alloc_heap_new wo (.cells #[.slice Aq fb.length cq, .int .i64 dn] 79)) 0
      have hF1 := cell_of (World.alloc_heap_new wo (.cells #[.slice Aq fb.length cq, .int .i64 dn] 79)) 1
      have hBA : Below wo.heap.size wo (wo.alloc (.cells #[.slice Aq fb.length cq, .int .i64 dn] 79)) := (Below.refl _ wo).alloc (Nat.le_refl _) _
      have HBA := Lib.hid hBA
      have hdt : dn ≤ t := by omega
      have hk0 : (0 : Int) ≤ (k : Int) := by omega
      have hka : (k : Int) < (ks.length : Int) := by omega
      have hd0 := hat.1.1
      have hd1 := hat.1.2
      unfold kI at hkn2
      have HWK := Lib.hid (HKW.out wo hkd)
      have HWA := Lib.hid (HKW.out _ (hkd.trans (KD.of_below hBA)))
      clear hst hb0 hIM hFl hDB hDbm hDlt hsub hnew hkd hRL hG hls hc1 hsuc2 hnin hkk hLb hT hBA hv hrow hok hat hcells hcutf hTT
      by_cases hK : k < keep.length
      · rw [if_pos hK] at hkn2
        obtain ⟨adk, hadk, hkc⟩ : ∃ ad, Ak = some ad ∧ ∀ W, Kd.C (Kd.int .i64) W Ak keep.length keep → W.cell? (ad.add k) = some (.int .i64 (keep.getD k 0)) := by
          obtain ⟨_, _, h3⟩ := HWK.out
          obtain ⟨ad, e, _⟩ := h3 (by omega)
          refine ⟨ad, e, fun W hW => ?_⟩
          obtain ⟨_, _, h4⟩ := hW
          obtain ⟨ad', e', h5⟩ := h4 (by omega)
          rw [e] at e'
          injection e' with e'
          subst e'
          obtain ⟨cs, hl, hK2, hc⟩ := h5 k keep[k] (by rw [List.getElem?_eq_getElem hK])
          simp only [Kd.int, Kd.scalar] at hK2 hc
          subst hK2
          rw [List.getD_eq_getElem?_getD, List.getElem?_eq_getElem hK]
          simpa using hc 0 _ rfl
        have hkA := hkc _ HWA.out
        subst hadk
        have hkpr := HKR2.out keep[k] (List.getElem_mem hK)
        have hkpe : keep.getD k 0 = keep[k] := by rw [List.getD_eq_getElem?_getD, List.getElem?_eq_getElem hK]; rfl
        rw [← hkpe] at hkpr
        clear hkpe hkc
        generalize keep.getD k 0 = kp at hkn2 hkA hkpr
        have hkK : (k : Int) < (keep.length : Int) := by omega
        have hloo : 0 ≤ (fb.length : Int) - (dn : Int) := by omega
        have hloo2 : (fb.length : Int) - (dn : Int) ≤ 16777216 := by omega
        clear hK
        have hX : IntKind.i64.wrap ((fb.length : Int) - (dn : Int)) = (fb.length : Int) - (dn : Int) := IntWalk.i64_in _ (by omega)
        have hY := hkn2
        have hcut' : ∀ W : World, (Instr.slice 27 (.slice Aq fb.length cq) none (some (.int .i64 ((dn : Int) + (kn : Int)))) none).run Try.prog W = .ok (.slice Aq t cq) W := by
          have e : (t : Int) = (dn : Int) + (kn : Int) := by omega
          rw [e] at hcut
          exact hcut
        have hkn0 : (0 : Int) ≤ (kn : Int) := by omega
        have hkn1 : (kn : Int) ≤ 16777216 := by omega
        clear hkn2 ht hcut
        go_wp2_with fail
        go_region_held3 (fun w' => w'.cell? (adk.add k) = some (.int .i64 kp) ∧ w'.cell? ⟨wo.heap.size, 0, none⟩ = some (.slice Aq fb.length cq) ∧ w'.cell? ⟨wo.heap.size, 1, none⟩ = some (.int .i64 dn)) (first | exact ⟨hkA, hF0, hF1⟩) (fail)
        go_wp2_with fail
        refine (clone_calls_n Aq cq t T HT.out _ (HCT.out _ ?_) (by rw [HT.out]; omega)).mono ?_
        · first | exact HBA.out | exact below_drew HBA.out
        rintro e w3 ⟨v3, rfl, hR3, hB3⟩
        obtain ⟨A3, c3, hv3, hcc3, _⟩ := Kd.R_reads hR3
        rw [HT.out] at hv3 hcc3
        subst hv3
        have hB3' : Below (wo.alloc (.cells #[.slice Aq fb.length cq, .int .i64 dn] 79)).heap.size (wo.alloc (.cells #[.slice Aq fb.length cq, .int .i64 dn] 79)) w3 := by first | exact hB3 | exact (below_drew (Below.refl _ _)).trans hB3
        have hsz3 := hB3'.size
        rw [World.size_alloc] at hsz3
        have hF3 := (hB3'.block wo.heap.size (by simp)).trans (World.alloc_heap_new wo _)
        have hBw3 : Below wo.heap.size wo w3 := HBA.out.trans (hB3'.mono HBA.out.size)
        have hR3' : Kd.R (Kd.int .u8) 5 w3 (wo.heap.size + 1) (fun _ => True) (.slice A3 t c3) T := by
          first
            | exact Kd.R_lower hR3 (by simp)
            | exact Kd.R_lower hR3 (by show wo.heap.size + 1 ≤ (wo.alloc _).heap.size; simp)
        obtain ⟨g, hgA, hg1, hg2, hgF⟩ : ∃ g, (t ≠ 0 → A3 = some ⟨g, 0, none⟩ ∧ g ≠ wo.heap.size) ∧ wo.heap.size ≤ g ∧ g < w3.heap.size ∧ (t = 0 → T = []) := by
          by_cases h0 : t = 0
          · exact ⟨wo.heap.size, fun h => absurd h0 h, Nat.le_refl _, by omega, fun _ => List.eq_nil_of_length_eq_zero (by rw [HT.out]; exact h0)⟩
          · obtain ⟨g, cap, e1, e2, e3, _⟩ := Kd.R_form hR3' (by rw [HT.out]; omega)
            injection e1 with e1
            exact ⟨g, fun _ => ⟨e1, by omega⟩, by omega, e3, fun h => absurd h h0⟩
        have hrow3 : Row8 w3 (fun j => D' j ∨ j = g) A3 T := by
          by_cases h0 : t = 0
          · exact .inl (hgF h0)
          · have := hgA h0
            refine row8_of_own (by have := Kd.own_of_R hR3'; rwa [HT.out] at this) (fun j hj => .inr ?_)
            rw [this.1] at hj
            simpa [Value.ownBlock] using hj.symm
        have f30 := cell_of hF3 0
        have f31 := cell_of hF3 1
        have fz0 := frozen_of hF3 0
        have s4 := heap_set hF3 0 (.slice A3 t c3)
        have f40 := cell_of s4 0
        have f41 := cell_of s4 1
        have hu4 := fun j (hj : j ≠ wo.heap.size) => Below.heap_setCell w3 ⟨wo.heap.size, 0, none⟩ (.slice A3 t c3) j hj
        have hsz4 : w3.heap.size ≤ (w3.setCell ⟨wo.heap.size, 0, none⟩ (.slice A3 t c3)).heap.size := by simp
        have hsz5 : (w3.setCell ⟨wo.heap.size, 0, none⟩ (.slice A3 t c3)).heap.size = w3.heap.size := by simp
        have hlo := HKD.out.size
        have hB4 : Below w1.heap.size wo (w3.setCell ⟨wo.heap.size, 0, none⟩ (.slice A3 t c3)) := (hBw3.mono hlo).setCell hlo _
        have HDR := Lib.hid (fun j (hj : D' j) => (hu4 j (by have := HDL.out j hj; omega)).trans (hBw3.block j (HDL.out j hj)))
        have hRL4 : KP8.R 84 (w3.setCell ⟨wo.heap.size, 0, none⟩ (.slice A3 t c3)) w1.heap.size (fun j => ¬ (D' j ∨ j = g)) u ((looseL (cutN keep ks d.fs k) (ks.take k)).map fun q => (G q.1, q.2)) := by
          have h1 := Kd.R_bound HRL.out
          have h2 := Kd.R_step (w1 := (w3.setCell ⟨wo.heap.size, 0, none⟩ (.slice A3 t c3))) h1 (fun j ho hl => (hu4 j (by omega)).trans (hBw3.block j hl))
          exact Kd.R_mono h2 (fun j ho e => e.elim ho.1 (fun e => by have := ho.2.2.1; omega))
        have huB := Kd.R_lt HRL.out
        have HUB := Lib.hid (fun j (hj : u.ownBlock = some j) => (⟨huB j hj, HRL.out.1 j hj⟩ : j < wo.heap.size ∧ ¬ D' j))
        have HROW := Lib.hid (fun (W : World) (hb : ∀ j, j ≠ wo.heap.size → j < w3.heap.size → some j ≠ u.ownBlock → W.heap[j]? = w3.heap[j]?) => show Row8 W (fun j => D' j ∨ j = g) A3 T from by
          by_cases h0 : t = 0
          · exact .inl (hgF h0)
          · refine (row8_of_own (D := fun j => j = g) (by have := Kd.own_of_R hR3'; rwa [HT.out] at this) (fun j hj => ?_)).same (fun j hj => .inr hj) (fun j hj _ _ => ?_)
            · rw [(hgA h0).1] at hj
              simpa [Value.ownBlock] using hj.symm
            · subst hj
              exact hb j (hgA h0).2 hg2 (fun e => by have := huB j e.symm; omega))
        have HGA := Lib.hid hgA
        have HRL4 := Lib.hid hRL4
        have HB4 := Lib.hid hB4
        have HU4 := Lib.hid hu4
        have HS4 := Lib.hid s4
        have hL0 : ((looseL (cutN keep ks d.fs k) (ks.take k)).map fun q => (G q.1, q.2)).length ≤ 16777216 := by rw [List.length_map]; exact HLB.out
        generalize hL0e : (looseL (cutN keep ks d.fs k) (ks.take k)).map (fun q => (G q.1, q.2)) = L0 at HRL4 hL0
        have HL0E := Lib.hid hL0e
        clear hR3 hB3 hB3' hF3 hR3' hrow3 hgA hgF hRL4 hB4 hu4 s4 huB hL0e HRL
        go_wp2
        generalize hW3 : w3.setCell ⟨wo.heap.size, 0, none⟩ (.slice A3 t c3) = W3 at HDR HRL4 HB4 HU4 HS4 hsz4 hsz5 f40 f41 ⊢
        clear hW3
        go_loopw [6, 11] (fun ui j wi => ∃ l : Nat, j = .int .i64 l ∧ dn ≤ l ∧ l ≤ t ∧ Hid (InSt W3 w1.heap.size u L0 g dn (fun j => ¬ (D' j ∨ j = g)) l ui wi)) (fun _ j _ => t - (intOf j).toNat)
        case atStart =>
          refine ⟨dn, rfl, Nat.le_refl _, hdt, Lib.hid ⟨?_, fun _ _ _ => rfl, .inl rfl, Nat.le_refl _, Below.refl _ _⟩⟩
          rw [Nat.sub_self]
          simpa using HRL4.out
        case round =>
          obtain ⟨l, rfl, hl1, hl2, hin⟩ := hrel
          obtain ⟨hRi, hbi, hoi, hszi, hBi⟩ := hin.out
          have hblk : wr.heap[wo.heap.size]? = _ := (hbi wo.heap.size (by omega) (fun e => by have := (HUB.out _ e.symm).1; omega)).trans HS4.out
          have g0 := cell_of hblk 0
          have g1 := cell_of hblk 1
          by_cases hlt2 : l < t
          · have hA3 := (HGA.out (by omega)).1
            rw [hA3] at g0
            have HRI := Lib.hid hRi
            have HBI := Lib.hid hbi
            have HOI := Lib.hid hoi
            have HBI2 := Lib.hid hBi
            have hl0 : (0 : Int) ≤ (l : Int) := by omega
            have hl3 : (l : Int) < (t : Int) := by omega
            have hszw : w1.heap.size ≤ wr.heap.size := by omega
            have hrl : (L0 ++ (List.range' dn (l - dn)).map fun j => (g, j)).length ≤ 33554432 := by rw [List.length_append, List.length_map, List.length_range']; omega
            have HRLN := Lib.hid hrl
            have hgw : g < wr.heap.size := by omega
            have HFR2 := Lib.hid (fun j (hj : wr.heap.size ≤ j) => show ¬ (D' j ∨ j = g) from fun e => e.elim (fun e => by have := HDL.out j e; omega) (fun e => by omega))
            clear hin hRi hbi hoi hBi hblk hrl hA3
            go_wp2_with (at_builtin; refine Kd.R_append KP8 (w0 := W3) w1.heap.size rfl (.tmp 62) (.tmp 67) 82 84 (.pointer none) 8 rfl Try.underlying82 infoP rfl Nat.one_pos (by decide) u6 _ (g, l) [encP (g, l)] (fun j => ¬ (D' j ∨ j = g)) (fun _ => False) rfl rfl rfl (fun _ h => h.elim) HFR2.out HRI.out HBI2.out hszw (by have := HRLN.out; omega) ?_; intro v6 w6 hR6 hB6 hg6 hat6; have HR6 := Lib.hid hR6; have HB6 := Lib.hid hB6; have HG6 := Lib.hid hg6; have HAT6 := Lib.hid hat6; clear hR6 hB6 hg6 hat6)
            go_roundw
            case rel =>
              refine ⟨l + 1, by go_num, by omega, by omega, Lib.hid ⟨?_, fun j hj hn => ?_, ?_, HB6.out.size, HB6.out⟩⟩
              · rw [rng_snoc _ _ _ hl1, ← List.append_assoc]
                exact HR6.out
              · refine (HG6.out.block j (by omega) (fun e => ?_)).trans (HBI.out j hj hn)
                rcases HOI.out with e1 | ⟨b, e1, hb⟩
                · exact hn (e.trans e1)
                · rw [e1] at e
                  injection e with e
                  omega
              · rcases HAT6.out with e1 | ⟨b, e1, hb⟩
                · rw [e1]
                  exact HOI.out
                · exact .inr ⟨b, e1, by omega⟩
            case measure => simp [intOf]; omega
          · have hlt' : t = l := by omega
            subst hlt'
            have hDw : ∀ j, D' j → wr.heap[j]? = wo.heap[j]? := fun j hj => (hbi j (by have := HDL.out j hj; omega) (fun e => (HUB.out j e.symm).2 hj)).trans (HDR.out j hj)
            have hDM2 : DkM wr (fun j => D' j ∨ j = g) B bm m { d with fs := cutN keep ks d.fs k } :=
              ⟨(hDw B HDB.out).trans HB0.out, HIM.out.same (hDw bm HDBM.out), (HFL.out.same (fun _ h => h) (fun j hj _ _ => hDw j hj)).more (fun _ h => .inl h), .inl HDB.out, .inl HDBM.out, fun j hj => hj.elim (fun e => by have := HDL.out j e; omega) (fun e => by omega)⟩
            have hrow2 := HROW.out wr (fun j h1 h2 h3 => (hbi j (by omega) h3).trans (HU4.out j h1))
            have HSET := Lib.hid (set_callsM_n (fun j => D' j ∨ j = g) B bm m { d with fs := cutN keep ks d.fs k } n (by omega) A3 c3 t ⟨T, (dn : Int)⟩ HT.out hcc3 wr hDM2 hrow2)
            have HRI := Lib.hid hRi
            have HBLO := Lib.hid (HB4.out.trans hBi)
            clear hin hRi hbi hoi hBi hblk hDw hDM2 hrow2
            go_wp2_with fail
            refine HSET.out.mono ?_
            rintro e w5 ⟨rfl, hDM5, hk5⟩
            have HDM5 := Lib.hid hDM5
            have HK5 := Lib.hid hk5
            clear hDM5 hk5
            go_wp2
            go_roundw
            case rel =>
              have hnew5 : ∀ j, D' j ∨ j = g → D j ∨ w1.heap.size ≤ j := fun j hj => hj.elim (HNEW.out j) (fun e => .inr (by omega))
              refine ⟨k + 1, by go_num, by omega, Lib.hid ?_⟩
              unfold CrSt
              rw [HKSD.out]
              refine ⟨fun j => D' j ∨ j = g, _, fun j => if j = n then g else G j, by rw [HS2.out]; exact HDM5.out, fun j hj => .inl (HSUB.out j hj), hnew5, (HKD.out.step HBLO.out).less HK5.out hnew5, ?_, ?_⟩
              · have h1 := Kd.R_step (w1 := w5) (Kd.R_bound HRI.out) (fun j ho hl => HK5.out.block j hl ho.1)
                have h2 := Kd.R_mono (ok' := fun j => ¬ (D' j ∨ j = g)) h1 (fun j ho => ho.1)
                rw [HLS.out, HC1.out, List.map_append, List.map_map, Int.toNat_natCast]
                have e1 : (looseL (cutN keep ks d.fs k) (ks.take k)).map (fun q => ((if q.1 = n then g else G q.1), q.2)) = L0 := by
                  rw [← HL0E.out]
                  refine List.map_congr_left (fun q hq => ?_)
                  rw [if_neg (fun e => HNI.out (by rw [← e]; exact (looseL_mem hq).1))]
                rw [e1]
                have e2 : ((fun q : Int × Nat => ((if q.1 = n then g else G q.1), q.2)) ∘ fun j => (n, j)) = fun j => (g, j) := by
                  funext j
                  simp
                rw [e2]
                exact h2
              · rw [HKK.out]
                exact FlsG.more HG.out HNI.out (by omega) (fun j hj e => by have := HDL.out j hj; omega) (fun h0 => (HGA.out h0).1)
            case measure => simp [intOf]; omega
      · rw [if_neg hK] at hkn2
        have hkK : ¬ (k : Int) < (keep.length : Int) := by omega
        have htd : t = dn := by omega
        have hcut' : ∀ W : World, (Instr.slice 27 (.slice Aq fb.length cq) none (some (.int .i64 (dn : Int))) none).run Try.prog W = .ok (.slice Aq t cq) W := by rw [htd] at hcut ⊢; exact hcut
        have HTD := Lib.hid htd
        clear hK hkn2 ht htd hcut
        go_wp2_with fail
        refine (clone_calls_n Aq cq t T HT.out _ (HCT.out _ ?_) (by rw [HT.out]; omega)).mono ?_
        · first | exact HBA.out | exact below_drew HBA.out
        rintro e w3 ⟨v3, rfl, hR3, hB3⟩
        obtain ⟨A3, c3, hv3, hcc3, _⟩ := Kd.R_reads hR3
        rw [HT.out] at hv3 hcc3
        subst hv3
        have hB3' : Below (wo.alloc (.cells #[.slice Aq fb.length cq, .int .i64 dn] 79)).heap.size (wo.alloc (.cells #[.slice Aq fb.length cq, .int .i64 dn] 79)) w3 := by first | exact hB3 | exact (below_drew (Below.refl _ _)).trans hB3
        have hsz3 := hB3'.size
        rw [World.size_alloc] at hsz3
        have hF3 := (hB3'.block wo.heap.size (by simp)).trans (World.alloc_heap_new wo _)
        have hBw3 : Below wo.heap.size wo w3 := HBA.out.trans (hB3'.mono HBA.out.size)
        have hR3' : Kd.R (Kd.int .u8) 5 w3 (wo.heap.size + 1) (fun _ => True) (.slice A3 t c3) T := by
          first
            | exact Kd.R_lower hR3 (by simp)
            | exact Kd.R_lower hR3 (by show wo.heap.size + 1 ≤ (wo.alloc _).heap.size; simp)
        obtain ⟨g, hgA, hg1, hg2, hgF⟩ : ∃ g, (t ≠ 0 → A3 = some ⟨g, 0, none⟩ ∧ g ≠ wo.heap.size) ∧ wo.heap.size ≤ g ∧ g < w3.heap.size ∧ (t = 0 → T = []) := by
          by_cases h0 : t = 0
          · exact ⟨wo.heap.size, fun h => absurd h0 h, Nat.le_refl _, by omega, fun _ => List.eq_nil_of_length_eq_zero (by rw [HT.out]; exact h0)⟩
          · obtain ⟨g, cap, e1, e2, e3, _⟩ := Kd.R_form hR3' (by rw [HT.out]; omega)
            injection e1 with e1
            exact ⟨g, fun _ => ⟨e1, by omega⟩, by omega, e3, fun h => absurd h h0⟩
        have hrow3 : Row8 w3 (fun j => D' j ∨ j = g) A3 T := by
          by_cases h0 : t = 0
          · exact .inl (hgF h0)
          · have := hgA h0
            refine row8_of_own (by have := Kd.own_of_R hR3'; rwa [HT.out] at this) (fun j hj => .inr ?_)
            rw [this.1] at hj
            simpa [Value.ownBlock] using hj.symm
        have f30 := cell_of hF3 0
        have f31 := cell_of hF3 1
        have fz0 := frozen_of hF3 0
        have s4 := heap_set hF3 0 (.slice A3 t c3)
        have f40 := cell_of s4 0
        have f41 := cell_of s4 1
        have hu4 := fun j (hj : j ≠ wo.heap.size) => Below.heap_setCell w3 ⟨wo.heap.size, 0, none⟩ (.slice A3 t c3) j hj
        have hsz4 : w3.heap.size ≤ (w3.setCell ⟨wo.heap.size, 0, none⟩ (.slice A3 t c3)).heap.size := by simp
        have hsz5 : (w3.setCell ⟨wo.heap.size, 0, none⟩ (.slice A3 t c3)).heap.size = w3.heap.size := by simp
        have hlo := HKD.out.size
        have hB4 : Below w1.heap.size wo (w3.setCell ⟨wo.heap.size, 0, none⟩ (.slice A3 t c3)) := (hBw3.mono hlo).setCell hlo _
        have HDR := Lib.hid (fun j (hj : D' j) => (hu4 j (by have := HDL.out j hj; omega)).trans (hBw3.block j (HDL.out j hj)))
        have hRL4 : KP8.R 84 (w3.setCell ⟨wo.heap.size, 0, none⟩ (.slice A3 t c3)) w1.heap.size (fun j => ¬ (D' j ∨ j = g)) u ((looseL (cutN keep ks d.fs k) (ks.take k)).map fun q => (G q.1, q.2)) := by
          have h1 := Kd.R_bound HRL.out
          have h2 := Kd.R_step (w1 := (w3.setCell ⟨wo.heap.size, 0, none⟩ (.slice A3 t c3))) h1 (fun j ho hl => (hu4 j (by omega)).trans (hBw3.block j hl))
          exact Kd.R_mono h2 (fun j ho e => e.elim ho.1 (fun e => by have := ho.2.2.1; omega))
        have huB := Kd.R_lt HRL.out
        have HUB := Lib.hid (fun j (hj : u.ownBlock = some j) => (⟨huB j hj, HRL.out.1 j hj⟩ : j < wo.heap.size ∧ ¬ D' j))
        have HROW := Lib.hid (fun (W : World) (hb : ∀ j, j ≠ wo.heap.size → j < w3.heap.size → some j ≠ u.ownBlock → W.heap[j]? = w3.heap[j]?) => show Row8 W (fun j => D' j ∨ j = g) A3 T from by
          by_cases h0 : t = 0
          · exact .inl (hgF h0)
          · refine (row8_of_own (D := fun j => j = g) (by have := Kd.own_of_R hR3'; rwa [HT.out] at this) (fun j hj => ?_)).same (fun j hj => .inr hj) (fun j hj _ _ => ?_)
            · rw [(hgA h0).1] at hj
              simpa [Value.ownBlock] using hj.symm
            · subst hj
              exact hb j (hgA h0).2 hg2 (fun e => by have := huB j e.symm; omega))
        have HGA := Lib.hid hgA
        have HRL4 := Lib.hid hRL4
        have HB4 := Lib.hid hB4
        have HU4 := Lib.hid hu4
        have HS4 := Lib.hid s4
        have hL0 : ((looseL (cutN keep ks d.fs k) (ks.take k)).map fun q => (G q.1, q.2)).length ≤ 16777216 := by rw [List.length_map]; exact HLB.out
        generalize hL0e : (looseL (cutN keep ks d.fs k) (ks.take k)).map (fun q => (G q.1, q.2)) = L0 at HRL4 hL0
        have HL0E := Lib.hid hL0e
        clear hR3 hB3 hB3' hF3 hR3' hrow3 hgA hgF hRL4 hB4 hu4 s4 huB hL0e HRL
        go_wp2
        generalize hW3 : w3.setCell ⟨wo.heap.size, 0, none⟩ (.slice A3 t c3) = W3 at HDR HRL4 HB4 HU4 HS4 hsz4 hsz5 f40 f41 ⊢
        clear hW3
        go_loopw [6, 11] (fun ui j wi => ∃ l : Nat, j = .int .i64 l ∧ dn ≤ l ∧ l ≤ t ∧ Hid (InSt W3 w1.heap.size u L0 g dn (fun j => ¬ (D' j ∨ j = g)) l ui wi)) (fun _ j _ => t - (intOf j).toNat)
        case atStart =>
          refine ⟨dn, rfl, Nat.le_refl _, hdt, Lib.hid ⟨?_, fun _ _ _ => rfl, .inl rfl, Nat.le_refl _, Below.refl _ _⟩⟩
          rw [Nat.sub_self]
          simpa using HRL4.out
        case round =>
          obtain ⟨l, rfl, hl1, hl2, hin⟩ := hrel
          obtain ⟨hRi, hbi, hoi, hszi, hBi⟩ := hin.out
          have hblk : wr.heap[wo.heap.size]? = _ := (hbi wo.heap.size (by omega) (fun e => by have := (HUB.out _ e.symm).1; omega)).trans HS4.out
          have g0 := cell_of hblk 0
          have g1 := cell_of hblk 1
          by_cases hlt2 : l < t
          · have hA3 := (HGA.out (by omega)).1
            rw [hA3] at g0
            have HRI := Lib.hid hRi
            have HBI := Lib.hid hbi
            have HOI := Lib.hid hoi
            have HBI2 := Lib.hid hBi
            have hl0 : (0 : Int) ≤ (l : Int) := by omega
            have hl3 : (l : Int) < (t : Int) := by omega
            have hszw : w1.heap.size ≤ wr.heap.size := by omega
            have hrl : (L0 ++ (List.range' dn (l - dn)).map fun j => (g, j)).length ≤ 33554432 := by rw [List.length_append, List.length_map, List.length_range']; omega
            have HRLN := Lib.hid hrl
            have hgw : g < wr.heap.size := by omega
            have HFR2 := Lib.hid (fun j (hj : wr.heap.size ≤ j) => show ¬ (D' j ∨ j = g) from fun e => e.elim (fun e => by have := HDL.out j e; omega) (fun e => by omega))
            clear hin hRi hbi hoi hBi hblk hrl hA3
            go_wp2_with (at_builtin; refine Kd.R_append KP8 (w0 := W3) w1.heap.size rfl (.tmp 62) (.tmp 67) 82 84 (.pointer none) 8 rfl Try.underlying82 infoP rfl Nat.one_pos (by decide) u6 _ (g, l) [encP (g, l)] (fun j => ¬ (D' j ∨ j = g)) (fun _ => False) rfl rfl rfl (fun _ h => h.elim) HFR2.out HRI.out HBI2.out hszw (by have := HRLN.out; omega) ?_; intro v6 w6 hR6 hB6 hg6 hat6; have HR6 := Lib.hid hR6; have HB6 := Lib.hid hB6; have HG6 := Lib.hid hg6; have HAT6 := Lib.hid hat6; clear hR6 hB6 hg6 hat6)
            go_roundw
            case rel =>
              refine ⟨l + 1, by go_num, by omega, by omega, Lib.hid ⟨?_, fun j hj hn => ?_, ?_, HB6.out.size, HB6.out⟩⟩
              · rw [rng_snoc _ _ _ hl1, ← List.append_assoc]
                exact HR6.out
              · refine (HG6.out.block j (by omega) (fun e => ?_)).trans (HBI.out j hj hn)
                rcases HOI.out with e1 | ⟨b, e1, hb⟩
                · exact hn (e.trans e1)
                · rw [e1] at e
                  injection e with e
                  omega
              · rcases HAT6.out with e1 | ⟨b, e1, hb⟩
                · rw [e1]
                  exact HOI.out
                · exact .inr ⟨b, e1, by omega⟩
            case measure => simp [intOf]; omega
          · have hlt' : t = l := by omega
            subst hlt'
            have hDw : ∀ j, D' j → wr.heap[j]? = wo.heap[j]? := fun j hj => (hbi j (by have := HDL.out j hj; omega) (fun e => (HUB.out j e.symm).2 hj)).trans (HDR.out j hj)
            have hDM2 : DkM wr (fun j => D' j ∨ j = g) B bm m { d with fs := cutN keep ks d.fs k } :=
              ⟨(hDw B HDB.out).trans HB0.out, HIM.out.same (hDw bm HDBM.out), (HFL.out.same (fun _ h => h) (fun j hj _ _ => hDw j hj)).more (fun _ h => .inl h), .inl HDB.out, .inl HDBM.out, fun j hj => hj.elim (fun e => by have := HDL.out j e; omega) (fun e => by omega)⟩
            have hrow2 := HROW.out wr (fun j h1 h2 h3 => (hbi j (by omega) h3).trans (HU4.out j h1))
            have HSET := Lib.hid (set_callsM_n (fun j => D' j ∨ j = g) B bm m { d with fs := cutN keep ks d.fs k } n (by omega) A3 c3 t ⟨T, (dn : Int)⟩ HT.out hcc3 wr hDM2 hrow2)
            have HRI := Lib.hid hRi
            have HBLO := Lib.hid (HB4.out.trans hBi)
            clear hin hRi hbi hoi hBi hblk hDw hDM2 hrow2
            go_wp2_with fail
            refine HSET.out.mono ?_
            rintro e w5 ⟨rfl, hDM5, hk5⟩
            have HDM5 := Lib.hid hDM5
            have HK5 := Lib.hid hk5
            clear hDM5 hk5
            go_wp2
            go_roundw
            case rel =>
              have hnew5 : ∀ j, D' j ∨ j = g → D j ∨ w1.heap.size ≤ j := fun j hj => hj.elim (HNEW.out j) (fun e => .inr (by omega))
              refine ⟨k + 1, by go_num, by omega, Lib.hid ?_⟩
              unfold CrSt
              rw [HKSD.out]
              refine ⟨fun j => D' j ∨ j = g, _, fun j => if j = n then g else G j, by rw [HS2.out]; exact HDM5.out, fun j hj => .inl (HSUB.out j hj), hnew5, (HKD.out.step HBLO.out).less HK5.out hnew5, ?_, ?_⟩
              · have h1 := Kd.R_step (w1 := w5) (Kd.R_bound HRI.out) (fun j ho hl => HK5.out.block j hl ho.1)
                have h2 := Kd.R_mono (ok' := fun j => ¬ (D' j ∨ j = g)) h1 (fun j ho => ho.1)
                rw [HLS.out, HC1.out, List.map_append, List.map_map, Int.toNat_natCast]
                have e1 : (looseL (cutN keep ks d.fs k) (ks.take k)).map (fun q => ((if q.1 = n then g else G q.1), q.2)) = L0 := by
                  rw [← HL0E.out]
                  refine List.map_congr_left (fun q hq => ?_)
                  rw [if_neg (fun e => HNI.out (by rw [← e]; exact (looseL_mem hq).1))]
                rw [e1]
                have e2 : ((fun q : Int × Nat => ((if q.1 = n then g else G q.1), q.2)) ∘ fun j => (n, j)) = fun j => (g, j) := by
                  funext j
                  simp
                rw [e2]
                exact h2
              · rw [HKK.out]
                exact FlsG.more HG.out HNI.out (by omega) (fun j hj e => by have := HDL.out j hj; omega) (fun h0 => (HGA.out h0).1)
            case measure => simp [intOf]; omega
    · have hke : k = ks.length := by omega
      subst hke
      obtain ⟨D', m, G, hDM, hsub, hnew, hkd, hRL, hG⟩ := hst.out
      have HCD := Lib.hid (show crashD d keep flip = { d with fs := (flipD (cutN keep ks d.fs ks.length) (looseL (cutN keep ks d.fs ks.length) ks) flip).map (fun p => (p.1, hardF p.2)), off := false, armed := false } from by unfold crashD; rw [HKSD.out])
      rw [HKSD.out] at hDM hRL hG
      rw [List.take_length] at hRL hG
      have hLb := looseL_bound (d := { d with fs := cutN keep ks d.fs ks.length }) (HOK.out ks.length) HKS.out
      simp only at hLb
      have hokN := HOK.out ks.length
      have hkin : ∀ n ∈ (cutN keep ks d.fs ks.length).map Prod.fst, n ∈ ks := fun n hn => (cutN_keys ks.length n hn).elim (HKM.out n) id
      have hLm := fun q (hq : q ∈ looseL (cutN keep ks d.fs ks.length) ks) => looseL_mem hq
      generalize hLe : looseL (cutN keep ks d.fs ks.length) ks = L at HCD hRL hLb hLm
      generalize cutN keep ks d.fs ks.length = fsN at HCD hDM hLb hokN hLm hkin
      obtain ⟨Au, cu, hu, _, _⟩ := Kd.R_reads hRL
      rw [List.length_map] at hu
      subst hu
      have HSUB := Lib.hid hsub
      have HNEW := Lib.hid hnew
      have HKD := Lib.hid hkd
      have HRL := Lib.hid hRL
      have HG := Lib.hid hG
      have HDM := Lib.hid hDM
      have HLM := Lib.hid hLm
      have HOKN := Lib.hid hokN
      have HKIN := Lib.hid hkin
      have hL8 : (L.length : Int) ≤ 16777216 := by omega
      clear hst hsub hnew hkd hRL hG hDM hLe hLm hokN hkin
      by_cases hf0 : 0 ≤ flip ∧ 0 < L.length
      · obtain ⟨hf1, hf2⟩ := hf0
        have HFD := Lib.hid (show flipD fsN L flip = flipF fsN (L.getD ((flip % (8 * L.length)).toNat / 8) (0, 0)).1 (L.getD ((flip % (8 * L.length)).toNat / 8) (0, 0)).2 (7 - (flip % (8 * L.length)).toNat % 8) from by unfold flipD; rw [if_pos ⟨hf1, hf2⟩])
        obtain ⟨hr1, hr2, hr3⟩ := flip_range hf2 flip
        obtain ⟨r, hr⟩ := Int.eq_ofNat_of_zero_le hr2
        rw [hr] at hr1 hr3 HFD
        rw [Int.toNat_natCast] at hr1 HFD
        obtain ⟨gu, capu, eu, _, _, _⟩ := Kd.R_form HRL.out (by rw [List.length_map]; exact hf2)
        rw [List.length_map] at eu
        injection eu with eu _ ec
        subst eu
        have hRL2 := HRL.out
        have hcl := (Kd.R_celln ((0, 0) : Nat × Nat) hRL2 ((r / 8 : Nat) : Int) (by omega) (by omega)).1
        have hrd : rdOf ((0, 0) : Nat × Nat) (L.map fun q => (G q.1, q.2)) ((r / 8 : Nat) : Int) = (G (L.getD (r / 8) (0, 0)).1, (L.getD (r / 8) (0, 0)).2) := by
          unfold rdOf
          rw [Int.toNat_natCast, List.getD_eq_getElem?_getD, List.getElem?_map, List.getElem?_eq_getElem hr1, List.getD_eq_getElem?_getD, List.getElem?_eq_getElem hr1]
          rfl
        rw [hrd, Int.toNat_natCast] at hcl
        have hmem : L.getD (r / 8) (0, 0) ∈ L := by rw [List.getD_eq_getElem?_getD, List.getElem?_eq_getElem hr1]; exact List.getElem_mem hr1
        obtain ⟨hq1, hq2, hq3⟩ := HLM.out _ hmem
        generalize L.getD (r / 8) (0, 0) = q at hcl hq1 hq2 hq3 HFD
        obtain ⟨qn, qj⟩ := q
        simp only [encP] at hcl hq1 hq2 hq3 HFD
        clear hrd hmem hRL2
        obtain ⟨hb0, hIM, hFl, hDB, hDbm, hDl⟩ := HDM.out
        have hmk : ∀ p ∈ m, p.1 ∈ ks := by
          intro p hp
          have h1 : p.1 ∈ m.map Prod.fst := List.mem_map.2 ⟨p, hp, rfl⟩
          rw [hFl.fst] at h1
          exact HKIN.out _ h1
        have hGA : ∀ p ∈ m, ∃ l c x, p.2 = .agg #[.slice (some ⟨G p.1, 0, none⟩) l c, x] := fun p hp => (HG.out.1 p hp (hmk p hp)).1
        have hne : fileAt fsN qn ≠ noFl := fun e => by rw [e] at hq3; exact absurd hq3 (Nat.not_lt_zero _)
        obtain ⟨cells, hgb, hgc⟩ := hFl.byte hGA (fileAt_in hne) qj hq3
        obtain ⟨pq, hpq, hpe⟩ : ∃ p ∈ m, p.1 = qn := by
          have h1 : qn ∈ fsN.map Prod.fst := List.mem_map.2 ⟨_, fileAt_in hne, rfl⟩
          rw [← hFl.fst] at h1
          obtain ⟨p, hp, e⟩ := List.mem_map.1 h1
          exact ⟨p, hp, e⟩
        have hGq := (HG.out.1 pq hpq (hmk pq hpq)).2
        rw [hpe] at hGq
        have hGne : ∀ p ∈ m, p.1 ≠ qn → G p.1 ≠ G qn := fun p hp hn => by have := HG.out.2 p hp pq hpq (hmk p hp) (hmk pq hpq) (by rw [hpe]; exact hn); rwa [hpe] at this
        have hxr := (HOKN.out.at qn).2 _ (List.getElem_mem hq3)
        have hxe : ∀ p ∈ fsN, p.1 = qn → p.2.b.getD qj 0 = (fileAt fsN qn).b[qj] := fun p hp e => by
          have := fileAt_mem HOKN.out.nodup hp
          rw [e] at this
          rw [← this, List.getD_eq_getElem?_getD, List.getElem?_eq_getElem hq3]
          rfl
        generalize (fileAt fsN qn).b[qj] = x at hgc hxr hxe
        have b0 : wo.cell? ⟨G qn, qj, none⟩ = some (.int .u8 x) := (cell_of hgb qj).trans hgc
        have bf := frozen_of hgb qj
        have hd0 : (0 : Int) ≤ (r : Int) / 8 := by omega
        have hd1 : (r : Int) / 8 < (L.length : Int) := by omega
        have hr8 : (0 : Int) ≤ (r : Int) := by omega
        have hm0 : (0 : Int) < 8 * (L.length : Int) := by omega
        have hte : ((r : Int) / 8).toNat = r / 8 := by omega
        have hcl' := hcl
        rw [← hte] at hcl'
        clear hte
        have hw1 : IntKind.i64.wrap ((r : Int) / 8) = (r : Int) / 8 := IntWalk.i64_in _ (by omega)
        have hw2 : Int.tmod (r : Int) 8 = (r : Int) % 8 := Int.tmod_eq_emod_of_nonneg hr8
        have hw3 : IntKind.i64.wrap (7 - (r : Int) % 8) = 7 - (r : Int) % 8 := IntWalk.i64_in _ (by omega)
        have hs7 : (0 : Int) ≤ 7 - (r : Int) % 8 := by omega
        have hFlN : ∀ y, bitB x (7 - r % 8) = y → Fls (wo.setCell ⟨G qn, qj, none⟩ (.int .u8 y)) D' m (flipF fsN qn qj (7 - r % 8)) := fun y hy => Fls.flip (S := ks) (lo := 0) qn qj (7 - r % 8) y hFl hGA hGne (fun p hp e => by rw [hxe p hp e]; exact hy)
        have HFN := Lib.hid hFlN
        have hGB : G qn ≠ B := fun e => by rw [e, hb0] at hgb; injection hgb with hgb; injection hgb with _ hgb; cases hgb
        have hGM : G qn ≠ bm := fun e => by obtain ⟨es, clock, hb, _⟩ := hIM; rw [e, hb] at hgb; cases hgb
        have HDN := Lib.hid (fun y (hy : bitB x (7 - r % 8) = y) => show Dk (wo.setCell ⟨G qn, qj, none⟩ (.int .u8 y)) D' B { d with fs := flipF fsN qn qj (7 - r % 8) } from ⟨bm, m, (Below.heap_setCell wo ⟨G qn, qj, none⟩ _ B (fun e => hGB e.symm)).trans hb0, hIM.same (Below.heap_setCell wo ⟨G qn, qj, none⟩ _ bm (fun e => hGM e.symm)), HFN.out y hy, hDB, hDbm, fun j hj => by have := hDl j hj; simpa using this⟩)
        have HKN := Lib.hid (fun y => HKD.out.step (((Below.refl w1.heap.size wo).setCell hGq.1 y : Below w1.heap.size wo (wo.setCell ⟨G qn, qj, none⟩ y))))
        rw [HFD.out] at HCD
        clear hb0 hIM hFl hDB hDbm hDl hmk hGA hne hgb hgc hpq hpe hGq hGne hxe hFlN hGB hGM hq1 hq2 hq3 hr1 hr2 hf2 pq cells
        have HW := Lib.hid (And.intro hw1 (And.intro hw2 hw3))
        clear hw1 hw2 hw3
        go_wp2
        obtain ⟨hw1, hw2, hw3⟩ := HW.out
        go_still_tail 13, (by kernel_rfl)
        change wpList _ _ _ _ _ wo.drew
        generalize hy : bits .xor .u8 x (IntKind.u8.wrap ((2 : Int) ^ (7 - (r : Int) % 8).toNat)) = y
        have hyb : bitB x (7 - r % 8) = y := by
          rw [← hy]
          unfold bitB
          have e1 : (7 - (r : Int) % 8).toNat = 7 - r % 8 := by omega
          rw [e1]
          congr 1
        have HDKX0 := Lib.hid (HDN.out y hyb)
        obtain ⟨X, hX⟩ : ∃ X, flipF fsN qn qj (7 - r % 8) = X := ⟨_, rfl⟩
        rw [hX] at HCD HDKX0
        have HDKX := Lib.hid HDKX0.out.drew
        have HKDX := Lib.hid ((HKN.out (.int .u8 y)).trans (KD.of_below (below_drew (Below.refl _ _))))
        clear hX hy hyb hw1 hw2 hw3 hs7 hd0 hd1 hm0 hr8 hcl hcl'
        go_wp2_with fail
        refine (harden_calls D' B { d with fs := X } _ HDKX.out).mono ?_
        rintro e w7 ⟨rfl, ⟨bm7, m7, h70, hm7, hf7, h71, h72, h73⟩, hk7⟩
        have c72 := cell_of h70 2
        have f72 := frozen_of h70 2
        have s7 := heap_set h70 2 (.bool false)
        have c73 := cell_of s7 3
        have f73 := frozen_of s7 3
        have S8 := Lib.hid (heap_set s7 3 (.bool false))
        have H70 := Lib.hid h70
        have HM7 := Lib.hid hm7
        have HF7 := Lib.hid hf7
        have HK7 := Lib.hid hk7
        have hkk : ∀ base, KX B base w7 ((w7.setCell ⟨B, 2, none⟩ (.bool false)).setCell ⟨B, 3, none⟩ (.bool false)) := fun base => (kx_set B base 2 w7 (.bool false)).trans (kx_set B base 3 _ (.bool false))
        have HKK := Lib.hid hkk
        clear h70 hm7 hf7 hk7 s7 hkk
        go_wp2
        go_end0
        refine ⟨rfl, D', ?_, HSUB.out, fun j hj => (HNEW.out j hj).imp id (fun e => Nat.le_trans HB1.out.size e), ((KD.of_below HB1.out).trans (HKDX.out.less HK7.out HNEW.out)).trans' (KD.of_kx (D := D') (HKK.out _) h71 (NoU8.cells H70.out (by decide))) (fun j hj => (HNEW.out j hj).imp id (fun e => Nat.le_trans HB1.out.size e))⟩
        rw [HCD.out]
        exact Dk.turn (d := { d with fs := X.map fun p => (p.1, hardF p.2) }) (d' := { d with fs := X.map (fun p => (p.1, hardF p.2)), off := false, armed := false }) rfl (by simpa using S8.out) H70.out HM7.out HF7.out h71 h72 h73 HKK.out
      · obtain ⟨X, hX⟩ : ∃ X, X = fsN := ⟨_, rfl⟩
        have hfd : flipD fsN L flip = X := by unfold flipD; rw [if_neg hf0, hX]
        rw [hfd] at HCD
        have HDKX := Lib.hid (show Dk wo D' B { d with fs := X } from by rw [hX]; exact ⟨bm, m, HDM.out⟩)
        have HKDX := HKD
        clear hX hfd
        by_cases hf1 : 0 ≤ flip
        · have hf2 : ¬ (0 : Int) < 8 * (L.length : Int) := by omega
          have hL0 : (L.length : Int) = 0 := by omega
          clear hf0
          go_wp2_with fail
          refine (harden_calls D' B { d with fs := X } _ HDKX.out).mono ?_
          rintro e w7 ⟨rfl, ⟨bm7, m7, h70, hm7, hf7, h71, h72, h73⟩, hk7⟩
          have c72 := cell_of h70 2
          have f72 := frozen_of h70 2
          have s7 := heap_set h70 2 (.bool false)
          have c73 := cell_of s7 3
          have f73 := frozen_of s7 3
          have S8 := Lib.hid (heap_set s7 3 (.bool false))
          have H70 := Lib.hid h70
          have HM7 := Lib.hid hm7
          have HF7 := Lib.hid hf7
          have HK7 := Lib.hid hk7
          have hkk : ∀ base, KX B base w7 ((w7.setCell ⟨B, 2, none⟩ (.bool false)).setCell ⟨B, 3, none⟩ (.bool false)) := fun base => (kx_set B base 2 w7 (.bool false)).trans (kx_set B base 3 _ (.bool false))
          have HKK := Lib.hid hkk
          clear h70 hm7 hf7 hk7 s7 hkk
          go_wp2
          go_end0
          refine ⟨rfl, D', ?_, HSUB.out, fun j hj => (HNEW.out j hj).imp id (fun e => Nat.le_trans HB1.out.size e), ((KD.of_below HB1.out).trans (HKDX.out.less HK7.out HNEW.out)).trans' (KD.of_kx (D := D') (HKK.out _) h71 (NoU8.cells H70.out (by decide))) (fun j hj => (HNEW.out j hj).imp id (fun e => Nat.le_trans HB1.out.size e))⟩
          rw [HCD.out]
          exact Dk.turn (d := { d with fs := X.map fun p => (p.1, hardF p.2) }) (d' := { d with fs := X.map (fun p => (p.1, hardF p.2)), off := false, armed := false }) rfl (by simpa using S8.out) H70.out HM7.out HF7.out h71 h72 h73 HKK.out
        · clear hf0
          go_wp2_with fail
          refine (harden_calls D' B { d with fs := X } _ HDKX.out).mono ?_
          rintro e w7 ⟨rfl, ⟨bm7, m7, h70, hm7, hf7, h71, h72, h73⟩, hk7⟩
          have c72 := cell_of h70 2
          have f72 := frozen_of h70 2
          have s7 := heap_set h70 2 (.bool false)
          have c73 := cell_of s7 3
          have f73 := frozen_of s7 3
          have S8 := Lib.hid (heap_set s7 3 (.bool false))
          have H70 := Lib.hid h70
          have HM7 := Lib.hid hm7
          have HF7 := Lib.hid hf7
          have HK7 := Lib.hid hk7
          have hkk : ∀ base, KX B base w7 ((w7.setCell ⟨B, 2, none⟩ (.bool false)).setCell ⟨B, 3, none⟩ (.bool false)) := fun base => (kx_set B base 2 w7 (.bool false)).trans (kx_set B base 3 _ (.bool false))
          have HKK := Lib.hid hkk
          clear h70 hm7 hf7 hk7 s7 hkk
          go_wp2
          go_end0
          refine ⟨rfl, D', ?_, HSUB.out, fun j hj => (HNEW.out j hj).imp id (fun e => Nat.le_trans HB1.out.size e), ((KD.of_below HB1.out).trans (HKDX.out.less HK7.out HNEW.out)).trans' (KD.of_kx (D := D') (HKK.out _) h71 (NoU8.cells H70.out (by decide))) (fun j hj => (HNEW.out j hj).imp id (fun e => Nat.le_trans HB1.out.size e))⟩
          rw [HCD.out]
          exact Dk.turn (d := { d with fs := X.map fun p => (p.1, hardF p.2) }) (d' := { d with fs := X.map (fun p => (p.1, hardF p.2)), off := false, armed := false }) rfl (by simpa using S8.out) H70.out HM7.out HF7.out h71 h72 h73 HKK.out

end Go.Proofs.Ytjnbbmiccbjjbaa.Disk
