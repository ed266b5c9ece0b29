/-
  backwashlaw23.TextShows: its walk. Condition: the library's variables hold what its text lays.
-/
import Derived.Test.YtigdaaloagecgaaGreatDoorAwake
import Derived.Test.YtigdaaloagecgaaGreatDoorRefShow
namespace Go.Proofs.YtigdaaloagecgaaGreatDoor
open Go.RowKit

set_option maxHeartbeats 1600000 in
set_option maxRecDepth 100000 in
theorem textShows_any (s : GS) (g : Gr) (w : World) (h : GrAt w w.heap.size s g) (L : Libs w) : Calls Tryz.prog 3 #[s.val] w fun e w' => e = .returned (.bool true) ∧ Below w.heap.size w w' := by
  have HK : Hid (∀ W : World, Below w.heap.size w W → GrAt W W.heap.size s g) := fun W hb => (h.belows hb (Nat.le_refl _)).more hb.size
  have HL : Hid (∀ W : World, Below w.heap.size w W → Libs W) := fun W hb => L.below hb L.size
  clear h L
  obtain ⟨Pa, pn, pc, Ba, bn, bc, Na, nn, nc, Ea, en, ec⟩ := s
  unfold GS.val
  generalize hb : Obj.cells #[.slice Pa pn pc, .slice Ba bn bc, .slice Na nn nc, .slice Ea en ec] 26 = box
  have hb0 : Below w.heap.size w (w.alloc box) := (Below.refl _ _).alloc (Nat.le_refl _) _
  have HB0 := Lib.hid hb0
  subst hb
  have HA := Lib.hid (awake_any _ (HL.out _ HB0.out))
  clear hb0
  go_enter Tryz.func3, Tryz.ntmps3
  go_wp2_with fail
  refine HA.out.mono ?_
  rintro r w1 ⟨rfl, hb1⟩
  have HB1 := Lib.hid (HB0.out.trans (hb1.mono (by simp)))
  have k0 : w1.heap[w.heap.size]? = some (.cells #[.slice Pa pn pc, .slice Ba bn bc, .slice Na nn nc, .slice Ea en ec] 26 (0, 0)) := (hb1.block _ (by simp)).trans (heap_alloc_new _ _ _)
  have c0 : w1.cell? ⟨w.heap.size, 0, none⟩ = some (.slice Pa pn pc) := by rw [Lib.cell_of_heap k0]; rfl
  have c1 : w1.cell? ⟨w.heap.size, 1, none⟩ = some (.slice Ba bn bc) := by rw [Lib.cell_of_heap k0]; rfl
  have c2 : w1.cell? ⟨w.heap.size, 2, none⟩ = some (.slice Na nn nc) := by rw [Lib.cell_of_heap k0]; rfl
  have c3 : w1.cell? ⟨w.heap.size, 3, none⟩ = some (.slice Ea en ec) := by rw [Lib.cell_of_heap k0]; rfl
  have HK0 := Lib.hid k0
  have HS := Lib.hid (short_any _ g _ (HK.out _ HB1.out))
  clear hb1 k0
  unfold GS.val at HS
  go_wp2_with fail
  refine HS.out.mono ?_
  rintro r w2 ⟨rfl, hb2⟩
  have HK2 := Lib.hid ((hb2.block _ (heap_lt HK0.out)).trans HK0.out)
  have HB2 := Lib.hid (HB1.out.trans (hb2.mono HB1.out.size))
  clear hb2 c0 c1 c2 c3
  have c02 : w2.cell? ⟨w.heap.size, 0, none⟩ = some (.slice Pa pn pc) := by rw [Lib.cell_of_heap HK2.out]; rfl
  have c12 : w2.cell? ⟨w.heap.size, 1, none⟩ = some (.slice Ba bn bc) := by rw [Lib.cell_of_heap HK2.out]; rfl
  have c22 : w2.cell? ⟨w.heap.size, 2, none⟩ = some (.slice Na nn nc) := by rw [Lib.cell_of_heap HK2.out]; rfl
  have c32 : w2.cell? ⟨w.heap.size, 3, none⟩ = some (.slice Ea en ec) := by rw [Lib.cell_of_heap HK2.out]; rfl
  have HS3 := Lib.hid (show_any _ g _ (HK.out _ HB2.out) (HL.out _ HB2.out))
  unfold GS.val at HS3
  cases shortB g with
  | false =>
    go_wp2_with fail
    go_ret
    exact ⟨rfl, HB2.out⟩
  | true =>
    go_wp2_with fail
    refine HS3.out.mono ?_
    rintro r w3 ⟨rfl, hb3⟩
    have HK3 := Lib.hid ((hb3.block _ (heap_lt HK2.out)).trans HK2.out)
    have HB3 := Lib.hid (HB2.out.trans (hb3.mono HB2.out.size))
    clear hb3 c02 c12 c22 c32
    have c03 : w3.cell? ⟨w.heap.size, 0, none⟩ = some (.slice Pa pn pc) := by rw [Lib.cell_of_heap HK3.out]; rfl
    have c13 : w3.cell? ⟨w.heap.size, 1, none⟩ = some (.slice Ba bn bc) := by rw [Lib.cell_of_heap HK3.out]; rfl
    have c23 : w3.cell? ⟨w.heap.size, 2, none⟩ = some (.slice Na nn nc) := by rw [Lib.cell_of_heap HK3.out]; rfl
    have c33 : w3.cell? ⟨w.heap.size, 3, none⟩ = some (.slice Ea en ec) := by rw [Lib.cell_of_heap HK3.out]; rfl
    have HR := Lib.hid (refShow_any _ g _ (HK.out _ HB3.out))
    unfold GS.val at HR
    generalize (showSpec g).1 = txt at HR ⊢
    generalize (showSpec g).2 = er at HR ⊢
    go_wp2_with fail
    refine HR.out.mono ?_
    rintro r w4 ⟨rfl, hb4⟩
    have HB4 := Lib.hid (HB3.out.trans (hb4.mono HB3.out.size))
    clear hb4
    go_wp2_with fail
    go_ret
    exact ⟨rfl, HB4.out⟩

end Go.Proofs.YtigdaaloagecgaaGreatDoor
