/- Package disk: Copy; two disks beside each other. -/
import Derived.Test.YtjnbbmiccbjjbaaCrash
import Derived.Test.YtjnbbmiccbjjbaaShC
namespace Go.Proofs.Ytjnbbmiccbjjbaa.Disk
open Go.RowKit Go.Shelf Go.Proofs Go.Proofs.Ytjnbbmiccbjjbaa.Ma Go.Proofs.Ytjnbbmiccbjjbaa.Wire Go.Proofs.Ytjnbbmiccbjjbaa.Rdr Go.Proofs.Ytjnbbmiccbjjbaa.MapI Go.Proofs.YtjnbbmiccbjjbaaW.PrintWords Go.Proofs.YtjnbbmiccbjjbaaW.PrintLast

/-- A block of bytes. -/
def IsU8 (W : World) (k : Nat) : Prop := ∃ cells : Array Value, W.heap[k]? = some (.cells cells 5 (0, 0))
theorem Row8.u8 {W : World} {D : Nat → Prop} {A : Option Addr} {bs : List Int} (h : Row8 W D A bs) : Row8 W (fun k => D k ∧ IsU8 W k) A bs := by
  rcases h with h | ⟨g, o, cells, h1, h2, h3, h4⟩
  · exact .inl h
  · exact .inr ⟨g, o, cells, h1, ⟨h2, cells, h3⟩, h3, h4⟩
theorem Fls.u8 {W : World} {D : Nat → Prop} : ∀ {m : List (Int × Value)} {fs : List (Int × Fl)}, Fls W D m fs → Fls W (fun k => D k ∧ IsU8 W k) m fs
  | [], [], _ => trivial
  | (_, _) :: _, (_, _) :: _, ⟨h1, ⟨A, c, h2, h3, h4⟩, h5⟩ => ⟨h1, ⟨A, c, h2, h3, h4.u8⟩, Fls.u8 h5⟩
  | [], _ :: _, h => h.elim
  | _ :: _, [], h => h.elim

/-- Two disks share blocks of bytes alone. -/
def Apart (W : World) (D1 D2 : Nat → Prop) : Prop := ∀ k, D1 k → D2 k → IsU8 W k
theorem Dk.other {W W' : World} {D1 D2 : Nat → Prop} {B : Nat} {d : Dsk} (h : Dk W D2 B d) (ha : Apart W D1 D2) (hk : KD D1 W W') : Dk W' D2 B d := by
  refine h.keep (fun k hD => ?_) hk.size
  by_cases h1 : D1 k
  · obtain ⟨cells, hc⟩ := ha k h1 hD
    exact hk.bytes k cells hc
  · exact hk.block k (h.lt k hD) h1
theorem IsU8.keep {W W' : World} {D : Nat → Prop} {k : Nat} (h : IsU8 W k) (hk : KD D W W') : IsU8 W' k := by
  obtain ⟨cells, hc⟩ := h
  exact ⟨cells, (hk.bytes k cells hc).trans hc⟩
theorem Apart.keep {W W' : World} {D1 D2 D1' D2' : Nat → Prop} {D : Nat → Prop} (h : Apart W D1 D2) (hk : KD D W W') (h1 : ∀ k, D1' k → D1 k ∨ W.heap.size ≤ k) (h2 : ∀ k, D2' k → D2 k) (hlt : ∀ k, D2 k → k < W.heap.size) : Apart W' D1' D2' := by
  intro k a b
  rcases h1 k a with e | e
  · exact (h k e (h2 k b)).keep hk
  · have := hlt k (h2 k b); omega
theorem Apart.symm {W : World} {D1 D2 : Nat → Prop} (h : Apart W D1 D2) : Apart W D2 D1 := fun k a b => h k b a

set_option maxRecDepth 100000 in
set_option maxHeartbeats 4000000 in
theorem copy_calls (D : Nat → Prop) (B : Nat) (d : Dsk) (w : World) (h : Dk w D B d) :
    Calls Try.prog 32 #[.pointer (some ⟨B, 0, none⟩)] w fun e w' => ∃ B' D', e = .returned (.pointer (some ⟨B', 0, none⟩)) ∧ Dk w' D' B' d ∧ (∀ k, D' k → w.heap.size ≤ k ∨ (D k ∧ IsU8 w k)) ∧ Below w.heap.size w w' := by
  have H := Lib.hid h
  obtain ⟨bm, m, h0, hm, hf, hD1, hD2, hD3⟩ := h
  have hlB := lt_of h0
  obtain ⟨es, clock, hb, hrest⟩ := hm
  have c0 := cell_of h0 0
  have c1 := cell_of h0 1
  have c2 := cell_of h0 2
  have c3 := cell_of h0 3
  have c4 := cell_of h0 4
  have hlM : bm < w.heap.size := lt_of hb
  have hBA : Below w.heap.size w (w.alloc (.cells #[.map (some bm), .int .i64 d.room, .bool d.off, .bool d.armed, .int .i64 d.left] 76)) := (Below.refl _ w).alloc (Nat.le_refl _) _
  have k0 := cell_of ((hBA.block B hlB).trans h0) 0
  have HCL := Lib.hid (fun (W : World) (h : W.heap[bm]? = some (.map es clock)) => AnyW.maps_Clone (P := Try.prog) (ρ := Sh.cloneM_ren) Sh.cloneM bm es clock W h)
  have HBM := Lib.hid ((hBA.block bm hlM).trans hb)
  have HB := Lib.hid hb
  have HR := Lib.hid hrest
  have HF := Lib.hid hf
  have HD3 := Lib.hid hD3
  have hN := World.alloc_heap_new w (.cells #[.map (some bm), .int .i64 d.room, .bool d.off, .bool d.armed, .int .i64 d.left] 76)
  have hN2 := (heap_alloc_old (w.alloc (.cells #[.map (some bm), .int .i64 d.room, .bool d.off, .bool d.armed, .int .i64 d.left] 76)) (.map es clock) w.heap.size (by simp)).trans hN
  have n0 := cell_of hN2 0
  have nf := frozen_of hN2 0
  have HS := Lib.hid (heap_set hN2 0 (.map (some (w.heap.size + 1))))
  have HM2 := Lib.hid (World.alloc_heap_new (w.alloc (.cells #[.map (some bm), .int .i64 d.room, .bool d.off, .bool d.armed, .int .i64 d.left] 76)) (.map es clock))
  have HBA := Lib.hid hBA
  clear hb hrest hf h0 hN hN2 hBA hD3
  go_enter Try.func32, Try.ntmps32
  go_wp2_with fail
  refine (HCL.out _ HBM.out).mono ?_
  rintro e w2 ⟨rfl, rfl⟩
  go_wp2
  go_ret
  have hB2 : Below w.heap.size w ((w.alloc (.cells #[.map (some (w.heap.size + 1)), .int .i64 d.room, .bool d.off, .bool d.armed, .int .i64 d.left] 76)).alloc (.map es clock)) := ((Below.refl _ w).alloc (Nat.le_refl _) _).alloc (by simp) _
  have e0 := (heap_alloc_old (w.alloc (.cells #[.map (some (w.heap.size + 1)), .int .i64 d.room, .bool d.off, .bool d.armed, .int .i64 d.left] 76)) (.map es clock) w.heap.size (by simp)).trans (World.alloc_heap_new w _)
  have e1 := World.alloc_heap_new (w.alloc (.cells #[.map (some (w.heap.size + 1)), .int .i64 d.room, .bool d.off, .bool d.armed, .int .i64 d.left] 76)) (.map es clock)
  rw [World.size_alloc] at e1
  refine ⟨w.heap.size, fun k => w.heap.size = k ∨ w.heap.size + 1 = k ∨ (D k ∧ IsU8 w k), rfl, ⟨w.heap.size + 1, m, e0, ⟨es, clock, e1, HR.out⟩, ?_, .inl rfl, .inr (.inl rfl), ?_⟩, ?_, hB2⟩
  · exact HF.out.u8.same (fun k hk => .inr (.inr hk)) (fun k hk _ _ => hB2.block k (HD3.out k hk.1))
  · intro k hk
    simp only [World.size_alloc]
    rcases hk with e | e | e
    · omega
    · omega
    · have := HD3.out k e.1; omega
  · rintro k (e | e | e)
    · exact .inl (by omega)
    · exact .inl (by omega)
    · exact .inr e

end Go.Proofs.Ytjnbbmiccbjjbaa.Disk
