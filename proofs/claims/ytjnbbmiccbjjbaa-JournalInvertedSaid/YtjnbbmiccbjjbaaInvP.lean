/- The plain side of JournalInverted and JournalDurable: one log in file 0, a planned failure, a crash. -/
import Derived.Test.YtjnbbmiccbjjbaaJBun
import Derived.Test.YtjnbbmiccbjjbaaHashP
namespace Go.Proofs.Ytjnbbmiccbjjbaa.Jnl
open Go.RowKit Go.Proofs Go.Proofs.Ytjnbbmiccbjjbaa.Ma Go.Proofs.Ytjnbbmiccbjjbaa.Wire Go.Proofs.Ytjnbbmiccbjjbaa.MapI Go.Proofs.Ytjnbbmiccbjjbaa.Few Go.Proofs.Ytjnbbmiccbjjbaa.Scan Go.Proofs.Ytjnbbmiccbjjbaa.Ref07 Go.Proofs.Ytjnbbmiccbjjbaa.Lives7 Go.Proofs.Ytjnbbmiccbjjbaa.Fr7 Go.Proofs.Ytjnbbmiccbjjbaa.Disk

theorem x9_firm {a : List Int} {f n : Nat} (h : f ≤ n) (flip : Int) : (H.x9 a f n flip).take f = a.take f := by
  unfold H.x9
  split
  · rename_i hc
    rw [List.take_set, List.take_take, show min f n = f by omega, List.set_eq_of_length_le]
    rw [List.length_take]
    have := (H.j9_lt hc.2 flip).1
    omega
  · rw [List.take_take, show min f n = f by omega]
/-- Scan of frames with the beginning of another frame behind them. -/
theorem scan_cut (xs : List (List Int)) (y : List Int) (k : Nat) (hx : ∀ x ∈ xs, x.length ≤ 200) (hy : y.length ≤ 200) (hn : xs.length ≤ 900) (hk : k < (frameL (xs.length : Int) y).length) :
    (scansL (framesL 0 xs ++ (frameL (xs.length : Int) y).take k)).map Prod.fst = xs ∧ endL (scansL (framesL 0 xs ++ (frameL (xs.length : Int) y).take k)) = ((framesL 0 xs).length : Int) := by
  obtain ⟨hl1, hl2⟩ := framesL_len xs 0 hx (by omega)
  have hfl := frameL_length (xs.length : Int) (by omega) y (by omega)
  have htk : ((frameL (xs.length : Int) y).take k).length = k := by rw [List.length_take]; omega
  have hb : (framesL 0 xs ++ (frameL (xs.length : Int) y).take k).length < 9223372036854775808 := by rw [List.length_append]; omega
  obtain ⟨pre, h1, h2, h3⟩ := scanR_frames xs ((framesL 0 xs ++ (frameL (xs.length : Int) y).take k).length + 1) 0 0 (framesL 0 xs ++ (frameL (xs.length : Int) y).take k) (by rw [List.drop_zero, Nat.zero_add, List.drop_left]) hb (by omega) (by rw [List.length_append]; omega) (Nat.zero_le _)
  have hbad : scanR ((framesL 0 xs ++ (frameL (xs.length : Int) y).take k).length + 1 - xs.length) (0 + xs.length) (0 + (framesL 0 xs).length) (framesL 0 xs ++ (frameL (xs.length : Int) y).take k) = [] := by
    refine scanR_bad _ _ _ _ (fun hp => ?_)
    rw [Nat.zero_add, Nat.zero_add, List.drop_left] at hp
    have hr := recL_len ((frameL (xs.length : Int) y).take k)
    have hp2 := hp.trans (List.take_prefix k (frameL (xs.length : Int) y))
    have e1 := recL_frame (xs.length : Int) (by omega) _ _ (by omega) hp2
    have e2 := recL_frame (xs.length : Int) (by omega) y _ (by omega) (List.prefix_refl (frameL (xs.length : Int) y))
    rw [e2] at e1
    rw [← e1] at hp
    have := hp.length_le
    omega
  rw [hbad, List.append_nil] at h1
  unfold scansL
  rw [h1]
  rw [Nat.zero_add] at h3
  exact ⟨h2, h3⟩

theorem scanR_last : ∀ (f k p : Nat) (b : List Int), p ≤ b.length → ∃ e : Nat, ((scanR f k p b).getLast?.map Prod.snd).getD (p : Int) = (e : Int) ∧ e ≤ b.length := by
  intro f
  induction f with
  | zero => intro k p b hp; exact ⟨p, rfl, hp⟩
  | succ f ih =>
    intro k p b hp
    rw [scanR]
    split
    · split
      · rename_i hpre
        have hle : p + (frameL k (recL (b.drop p))).length ≤ b.length := by
          have := hpre.length_le
          rw [List.length_drop] at this
          omega
        obtain ⟨e, h1, h2⟩ := ih (k + 1) (p + (frameL k (recL (b.drop p))).length) b hle
        generalize scanR f (k + 1) (p + (frameL k (recL (b.drop p))).length) b = l at h1
        refine ⟨e, ?_, h2⟩
        cases l with
        | nil => simpa using h1
        | cons a l =>
          rw [List.getLast?_cons] at h1 ⊢
          simp only [Option.map_some, Option.getD_some] at h1 ⊢
          rw [List.getLast?_cons]
          simp only [Option.getD_some]
          exact h1
      · exact ⟨p, by simp, hp⟩
    · exact ⟨p, by simp, hp⟩
theorem scans_end (a : List Int) : ∃ e : Nat, endL (scansL a) = (e : Int) ∧ e ≤ a.length := by
  have h := scanR_last (a.length + 1) 0 0 a (Nat.zero_le _)
  exact h

theorem fs9_nil_iff {xs : List (List Int)} : framesL 0 xs = [] ↔ xs = [] := by
  constructor
  · intro h
    rcases Classical.em (xs = []) with h1 | h1
    · exact h1
    · have := framesL_ne h1
      rw [h] at this
      cases this
  · rintro rfl; rfl
theorem dF_eq (left room : Int) (xs : List (List Int)) : dF left room 0 xs = ⟨H.fs9 (framesL 0 xs) ((framesL 0 xs).length : Int), room, false, false, left⟩ := by
  unfold dF H.fs9
  by_cases h : xs = []
  · rw [if_pos h, if_pos (fs9_nil_iff.2 h)]
  · rw [if_neg h, if_neg (fun e => h (fs9_nil_iff.1 e))]
/-- A crash of a disk with one file. -/
theorem crash_one (left room : Int) (off armed : Bool) {a : List Int} {f : Nat} (hf : f ≤ a.length) (keep flip : Int) :
    crashD ⟨H.fs9 a f, room, off, armed, left⟩ [keep] flip = ⟨H.fs9 (H.x9 a f (H.n9 a.length f keep) flip) ((H.n9 a.length f keep : Nat) : Int), room, false, false, left⟩ := by
  have h := congrArg Dsk.fs (H.crash9 (room := room) hf keep flip)
  have e1 : (crashD (H.dsk9 room a f) [keep] flip).fs = (crashD ⟨H.fs9 a f, room, off, armed, left⟩ [keep] flip).fs := rfl
  rw [e1] at h
  have e2 : crashD ⟨H.fs9 a f, room, off, armed, left⟩ [keep] flip = ⟨(crashD ⟨H.fs9 a f, room, off, armed, left⟩ [keep] flip).fs, room, false, false, left⟩ := rfl
  rw [e2, h]
  rfl
/-- Open of a disk with one file. -/
theorem open_one (left room : Int) {a : List Int} {f : Int} (hf : a = [] → f = 0) {e : Nat} (he : endL (scansL a) = (e : Int)) (hl : e ≤ a.length) :
    readD ⟨H.fs9 a f, room, false, false, left⟩ 0 = (a, 0) ∧ openD ⟨H.fs9 a f, room, false, false, left⟩ 0 = (0, ⟨H.fs9 (a.take e) (e : Int), room, false, false, left⟩) := by
  have hat := H.fs9_at a f hf
  have hr : readD ⟨H.fs9 a f, room, false, false, left⟩ 0 = (a, 0) := by
    unfold readD
    rw [if_neg (by omega), if_neg (by simp)]
    simp only
    rw [hat]
  refine ⟨hr, ?_⟩
  have hsync : ∀ (b : List Int) (g : Int), syncD ⟨H.fs9 b g, room, false, false, left⟩ = (0, ⟨H.fs9 b (b.length : Int), room, false, false, left⟩) := by
    intro b g
    unfold syncD stepD
    rw [if_neg (by simp), if_pos rfl, if_pos rfl]
    simp only
    rw [H.fs9_hard]
  unfold openD
  rw [hr]
  simp only [if_pos]
  rw [he]
  by_cases hlt : (e : Int) < (a.length : Int)
  · rw [if_pos hlt]
    have htr : truncD ⟨H.fs9 a f, room, false, false, left⟩ 0 (e : Int) = (0, ⟨H.fs9 (a.take e) (if (e : Int) < f then (e : Int) else f), room, false, false, left⟩) := by
      have hst : stepD ⟨H.fs9 a f, room, false, false, left⟩ = (true, ⟨H.fs9 a f, room, false, false, left⟩) := by unfold stepD; rw [if_pos rfl]
      unfold truncD
      rw [hst]
      simp only
      rw [hat]
      simp only
      rw [if_neg (by omega), if_neg (by simp), if_pos trivial, Int.toNat_natCast, H.fs9_set]
    rw [htr]
    simp only [if_pos]
    rw [hsync]
    have : (a.take e).length = e := by rw [List.length_take]; omega
    rw [this]
  · rw [if_neg hlt, hsync]
    have e1 : e = a.length := by omega
    rw [e1, List.take_length]

theorem app_step {left room : Int} {armed : Bool} {F fr : List Int} (hr : ((F.length + fr.length : Nat) : Int) ≤ room) :
    appendD ⟨H.fs9 F (F.length : Int), room, false, armed, left⟩ 0 fr = (if (stepD ⟨H.fs9 (F ++ fr) (F.length : Int), room, false, armed, left⟩).1 = true then 0 else 24, (stepD ⟨H.fs9 (F ++ fr) (F.length : Int), room, false, armed, left⟩).2) := by
  unfold appendD
  simp only
  rw [if_neg (by omega), if_neg (by simp), H.fs9_used, if_neg (by omega), H.fs9_at _ _ (fun e => by rw [e]; rfl)]
  simp only
  rw [H.fs9_set]
theorem lap_more {left room : Int} {F y : List Int} {m : Int} (hy : y.length ≤ 65536) (hl : 2 ≤ left) (hr : ((F.length + (frameL m y).length : Nat) : Int) ≤ room) :
    lapD ⟨H.fs9 F (F.length : Int), room, false, true, left⟩ 0 m false y = (0, ⟨H.fs9 (F ++ frameL m y) ((F ++ frameL m y).length : Int), room, false, true, left - 2⟩, m + 1, false) := by
  have hst : ∀ (b : List Int) (g l : Int), 1 ≤ l → stepD ⟨H.fs9 b g, room, false, true, l⟩ = (true, ⟨H.fs9 b g, room, false, true, l - 1⟩) := by
    intro b g l h
    unfold stepD
    simp only
    rw [if_neg (by simp), if_neg (by omega)]
    simp
  have ha : appendD ⟨H.fs9 F (F.length : Int), room, false, true, left⟩ 0 (frameL m y) = (0, ⟨H.fs9 (F ++ frameL m y) (F.length : Int), room, false, true, left - 1⟩) := by
    rw [app_step hr, hst _ _ _ (by omega)]
    rfl
  have hs : syncD ⟨H.fs9 (F ++ frameL m y) (F.length : Int), room, false, true, left - 1⟩ = (0, ⟨H.fs9 (F ++ frameL m y) ((F ++ frameL m y).length : Int), room, false, true, left - 2⟩) := by
    unfold syncD
    rw [if_neg (by simp), hst _ _ _ (by omega)]
    simp only [if_pos]
    rw [H.fs9_hard, show left - 1 - 1 = left - 2 by omega]
  unfold lapD
  rw [if_neg (by omega), if_neg (by simp), ha]
  simp only [if_pos]
  rw [hs]
  rfl
theorem lap_last {left room : Int} {F y : List Int} {m : Int} (hy : y.length ≤ 65536) (h0 : 0 ≤ left) (hl : left < 2) (hr : ((F.length + (frameL m y).length : Nat) : Int) ≤ room) :
    lapD ⟨H.fs9 F (F.length : Int), room, false, true, left⟩ 0 m false y = (24, ⟨H.fs9 (F ++ frameL m y) (F.length : Int), room, true, false, -1⟩, m, true) := by
  by_cases h1 : left = 0
  · subst h1
    have ha : appendD ⟨H.fs9 F (F.length : Int), room, false, true, 0⟩ 0 (frameL m y) = (24, ⟨H.fs9 (F ++ frameL m y) (F.length : Int), room, true, false, -1⟩) := by
      rw [app_step hr]
      rfl
    unfold lapD
    rw [if_neg (by omega), if_neg (by simp), ha]
    rfl
  · obtain rfl : left = 1 := by omega
    have ha : appendD ⟨H.fs9 F (F.length : Int), room, false, true, 1⟩ 0 (frameL m y) = (0, ⟨H.fs9 (F ++ frameL m y) (F.length : Int), room, false, true, 0⟩) := by
      rw [app_step hr]
      rfl
    unfold lapD
    rw [if_neg (by omega), if_neg (by simp), ha]
    rfl
theorem lap_down (d : Dsk) (m : Int) {y : List Int} (hy : y.length ≤ 65536) : lapD d 0 m true y = (24, d, m, true) := by
  unfold lapD
  rw [if_neg (by omega), if_pos rfl]
theorem arm_dF (room : Int) (xs : List (List Int)) (M : Nat) : armD (dF 0 room 0 xs) (M : Int) = ⟨H.fs9 (framesL 0 xs) ((framesL 0 xs).length : Int), room, false, true, (M : Int)⟩ := by
  rw [dF_eq]
  unfold armD
  rw [if_neg (by simp), decide_eq_true (show (0 : Int) ≤ (M : Int) by omega)]

/-- What is left of a log with one more frame, loose, behind a crash that may invert a bit. -/
theorem inv_crash (left room : Int) (off armed : Bool) (xs : List (List Int)) (y : List Int) (hx : ∀ x ∈ xs, x.length ≤ 200) (hy : y.length ≤ 200) (hn : xs.length ≤ 900) (keep flip : Int) :
    ∃ (a : List Int) (f : Int) (more : List (List Int)), crashD ⟨H.fs9 (framesL 0 xs ++ frameL (xs.length : Int) y) ((framesL 0 xs).length : Int), room, off, armed, left⟩ [keep] flip = ⟨H.fs9 a f, room, false, false, left⟩ ∧
      (scansL a).map Prod.fst = xs ++ more ∧ (readD ⟨H.fs9 a f, room, false, false, left⟩ 0) = (a, 0) ∧ (openD ⟨H.fs9 a f, room, false, false, left⟩ 0).1 = 0 := by
  obtain ⟨hl1, hl2⟩ := framesL_len xs 0 hx (by omega)
  have hfl := frameL_length (xs.length : Int) (by omega) y (by omega)
  have hlen : (framesL 0 xs ++ frameL (xs.length : Int) y).length = (framesL 0 xs).length + (frameL (xs.length : Int) y).length := List.length_append
  have hf : (framesL 0 xs).length ≤ (framesL 0 xs ++ frameL (xs.length : Int) y).length := by omega
  rw [crash_one left room off armed hf keep flip]
  obtain ⟨hn1, hn2⟩ := H.n9_le hf keep
  generalize H.n9 (framesL 0 xs ++ frameL (xs.length : Int) y).length (framesL 0 xs).length keep = nn at hn1 hn2 ⊢
  have hxl := H.x9_len (f := (framesL 0 xs).length) hn2 flip
  have hxf := x9_firm (a := framesL 0 xs ++ frameL (xs.length : Int) y) hn1 flip
  rw [List.take_left] at hxf
  generalize H.x9 (framesL 0 xs ++ frameL (xs.length : Int) y) (framesL 0 xs).length nn flip = a at hxl hxf ⊢
  have ha : a = framesL 0 xs ++ a.drop (framesL 0 xs).length := by have h := List.take_append_drop (framesL 0 xs).length a; rw [hxf] at h; exact h.symm
  have hdl : (a.drop (framesL 0 xs).length).length ≤ 1000 := by rw [List.length_drop]; omega
  obtain ⟨more, h1, h2⟩ := frames_scan xs (a.drop (framesL 0 xs).length) hx (by omega) hdl
  rw [← ha] at h1 h2
  have hend : ∃ e : Nat, endL (scansL a) = (e : Int) ∧ e ≤ a.length := scans_end a
  obtain ⟨e, he1, he2⟩ := hend
  have ho := open_one left room (a := a) (f := (nn : Int)) (fun e => by rw [e] at hxl; simp at hxl; omega) he1 he2
  exact ⟨a, _, more, rfl, h1, ho.1, by rw [ho.2]⟩

/-- JournalDurable: the state before record k; done of them have returned OK. -/
def DurP (M : Nat) (X : List (List Int)) (k done tried : Nat) (d : Dsk) (down : Bool) : Prop :=
  (done = k ∧ tried = k ∧ down = false ∧ 2 * k ≤ M ∧ d = ⟨H.fs9 (framesL 0 (X.take k)) ((framesL 0 (X.take k)).length : Int), 5000, false, true, (M : Int) - 2 * k⟩) ∨
  (done < k ∧ tried = done + 1 ∧ down = true ∧ ∃ h : done < X.length, d = ⟨H.fs9 (framesL 0 (X.take done) ++ frameL (done : Int) X[done]) ((framesL 0 (X.take done)).length : Int), 5000, true, false, -1⟩)
theorem dur_len {X : List (List Int)} (hX : X.length ≤ 6) (hs : Small X) (k : Nat) (hk : k < X.length) : ((framesL 0 (X.take k)).length + (frameL (k : Int) X[k]).length : Nat) ≤ 2000 ∧ X[k].length ≤ 10 := by
  obtain ⟨hl1, hl2⟩ := framesL_len (X.take k) 0 (fun x hx => by have := (hs x (List.mem_of_mem_take hx)).1; omega) (by rw [List.length_take]; omega)
  have h1 := (hs X[k] (List.getElem_mem hk)).1
  have hfl := frameL_length (k : Int) (by omega) X[k] (by omega)
  rw [List.length_take] at hl2
  omega
theorem dur_snoc {X : List (List Int)} {k : Nat} (hk : k < X.length) : framesL 0 (X.take (k + 1)) = framesL 0 (X.take k) ++ frameL (k : Int) X[k] := by
  rw [List.take_succ_eq_append_getElem hk, framesL_snoc, Nat.zero_add, List.length_take, Nat.min_eq_left (by omega)]
/-- One record: it returns OK; or it is the one that fails; or the log is down. -/
theorem dur_round {M : Nat} {X : List (List Int)} {k done tried : Nat} {d : Dsk} {down : Bool} (hX : X.length ≤ 6) (hs : Small X) (h : DurP M X k done tried d down) (hk : k < X.length) :
    (∃ d', lapD d 0 (done : Int) down X[k] = (0, d', (done : Int) + 1, false) ∧ DurP M X (k + 1) (done + 1) (done + 1) d' false) ∨
    (done = k ∧ ∃ d', lapD d 0 (done : Int) down X[k] = (24, d', (done : Int), true) ∧ DurP M X (k + 1) done (done + 1) d' true) ∨
    (done ≠ k ∧ ∃ d', lapD d 0 (done : Int) down X[k] = (24, d', (done : Int), true) ∧ DurP M X (k + 1) done tried d' true) := by
  obtain ⟨hl, hy⟩ := dur_len hX hs k hk
  rcases h with ⟨rfl, rfl, rfl, h2, rfl⟩ | ⟨h1, rfl, rfl, h3, rfl⟩
  · by_cases hM : 2 ≤ (M : Int) - 2 * tried
    · left
      refine ⟨_, lap_more (by omega) hM (by omega), .inl ⟨rfl, rfl, rfl, by omega, ?_⟩⟩
      rw [dur_snoc hk]
      congr 1
      omega
    · right; left
      exact ⟨rfl, _, lap_last (by omega) (by omega) (by omega) (by omega), .inr ⟨by omega, rfl, rfl, hk, rfl⟩⟩
  · right; right
    exact ⟨by omega, _, lap_down _ _ (by omega), .inr ⟨by omega, rfl, rfl, h3, rfl⟩⟩
/-- What a crash leaves. -/
theorem dur_crash {M : Nat} {X : List (List Int)} {k done tried : Nat} {d : Dsk} {down : Bool} (hX : X.length ≤ 6) (hs : Small X) (h : DurP M X k done tried d down) (hk : k = X.length) (keep : Int) :
    ∃ (left : Int) (m : Nat), done ≤ m ∧ m ≤ tried ∧ m ≤ X.length ∧ (scansL (readD (crashD d [keep] (-1)) 0).1).map Prod.fst = X.take m ∧ openD (crashD d [keep] (-1)) 0 = (0, dF left 5000 0 (X.take m)) := by
  have hx9 : ∀ (a : List Int) (f n : Nat), H.x9 a f n (-1) = a.take n := fun a f n => by unfold H.x9; rw [if_neg (by omega)]
  have hsm : ∀ m, ∀ x ∈ X.take m, x.length ≤ 200 := fun m x hx => by have := (hs x (List.mem_of_mem_take hx)).1; omega
  have hlt : ∀ m, (X.take m).length ≤ 6 := fun m => by rw [List.length_take]; omega
  rcases h with ⟨rfl, rfl, rfl, h2, rfl⟩ | ⟨h1, rfl, rfl, h3, rfl⟩
  · have hn : H.n9 (framesL 0 (X.take tried)).length (framesL 0 (X.take tried)).length keep = (framesL 0 (X.take tried)).length := by unfold H.n9; omega
    rw [crash_one _ _ _ _ (Nat.le_refl _) keep (-1), hn, hx9, List.take_length]
    obtain ⟨s1, s2⟩ := scans_frames (X.take tried) (hsm tried) (by have := hlt tried; omega)
    obtain ⟨o1, o2⟩ := open_one ((M : Int) - 2 * tried) 5000 (a := framesL 0 (X.take tried)) (f := ((framesL 0 (X.take tried)).length : Int)) (fun e => by rw [e]; rfl) s2 (Nat.le_refl _)
    refine ⟨(M : Int) - 2 * tried, tried, Nat.le_refl _, Nat.le_refl _, by omega, by rw [o1]; exact s1, ?_⟩
    rw [o2, dF_eq, List.take_length]
  · have hfl := dur_len hX hs done h3
    have hlen : (framesL 0 (X.take done) ++ frameL (done : Int) X[done]).length = (framesL 0 (X.take done)).length + (frameL (done : Int) X[done]).length := List.length_append
    have hf : (framesL 0 (X.take done)).length ≤ (framesL 0 (X.take done) ++ frameL (done : Int) X[done]).length := by omega
    rw [crash_one _ _ _ _ hf keep (-1), hx9]
    obtain ⟨hn1, hn2⟩ := H.n9_le hf keep
    generalize H.n9 (framesL 0 (X.take done) ++ frameL (done : Int) X[done]).length (framesL 0 (X.take done)).length keep = nn at hn1 hn2 ⊢
    have hd : ((X.take done).length : Int) = (done : Int) := by rw [List.length_take, Nat.min_eq_left (by omega)]
    by_cases hfull : nn = (framesL 0 (X.take done) ++ frameL (done : Int) X[done]).length
    · subst hfull
      rw [List.take_length, ← dur_snoc h3]
      obtain ⟨s1, s2⟩ := scans_frames (X.take (done + 1)) (hsm (done + 1)) (by have := hlt (done + 1); omega)
      obtain ⟨o1, o2⟩ := open_one (-1) 5000 (a := framesL 0 (X.take (done + 1))) (f := ((framesL 0 (X.take (done + 1))).length : Int)) (fun e => by rw [e]; rfl) s2 (Nat.le_refl _)
      refine ⟨-1, done + 1, by omega, Nat.le_refl _, by omega, by rw [o1]; exact s1, ?_⟩
      rw [o2, dF_eq, List.take_length]
    · have htk : (framesL 0 (X.take done) ++ frameL (done : Int) X[done]).take nn = framesL 0 (X.take done) ++ (frameL (done : Int) X[done]).take (nn - (framesL 0 (X.take done)).length) := by
        rw [List.take_append, List.take_of_length_le hn1]
      rw [htk]
      have hsc := scan_cut (X.take done) X[done] (nn - (framesL 0 (X.take done)).length) (hsm done) (by omega) (by have := hlt done; omega)
      rw [hd] at hsc
      obtain ⟨s1, s2⟩ := hsc (by omega)
      obtain ⟨o1, o2⟩ := open_one (-1) 5000 (a := framesL 0 (X.take done) ++ (frameL (done : Int) X[done]).take (nn - (framesL 0 (X.take done)).length)) (f := (nn : Int)) (fun e => by
        have e2 := congrArg List.length e
        rw [List.length_append, List.length_take] at e2
        simp only [List.length_nil] at e2
        omega) s2 (by rw [List.length_append]; omega)
      refine ⟨-1, done, Nat.le_refl _, by omega, by omega, by rw [o1]; exact s1, ?_⟩
      rw [o2, dF_eq, List.take_left]
end Go.Proofs.Ytjnbbmiccbjjbaa.Jnl
