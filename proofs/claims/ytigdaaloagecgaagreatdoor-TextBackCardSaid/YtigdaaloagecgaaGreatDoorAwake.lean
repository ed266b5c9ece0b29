/-
  backwashlaw23.awake: its walk. Condition: the library's variables hold what its text lays.
-/
import Derived.Test.YtigdaaloagecgaaGreatDoorParse4
import Derived.Test.YtigdaaloagecgaaGreatDoorCats
namespace Go.Proofs.YtigdaaloagecgaaGreatDoor
open Go.RowKit

/-- the graph that awake reads -/
def awG : Gr := ⟨[-1], [0], [⟨1, 0, 0, []⟩, ⟨15, 0, 0, []⟩], [⟨0, 1, 0, true⟩]⟩
theorem itoa_0 : Lib.itoa 0 = [48] := (Lib.itoa_nonneg 0).trans (Lib.decDigits_one (by omega))
theorem itoa_1 : Lib.itoa 1 = [49] := (Lib.itoa_nonneg 1).trans (Lib.decDigits_one (by omega))
theorem nm_1 : nmOf kindsL 1 = [105, 110, 112, 117, 116] := by decide +kernel
theorem nm_15 : nmOf kindsL 15 = [115, 105, 110, 107] := by decide +kernel
def awT : List UInt8 := [110, 111, 100, 101, 32, 105, 110, 112, 117, 116, 32, 48, 32, 48, 10, 110, 111, 100, 101, 32, 115, 105, 110, 107, 32, 48, 32, 48, 10, 101, 100, 103, 101, 32, 48, 32, 49, 32, 48, 32, 107, 101, 121, 10]
theorem awT_eq : showText awG = awT := by
  simp only [showText, scopesL, awG, List.tail_cons, List.zip_nil_left, List.flatMap_nil, List.flatMap_cons, List.nil_append, List.append_nil, nodeT, edgeT, lineOf4, lineOf5, itoa_0, itoa_1, nm_1, nm_15, if_true]
  rfl
theorem awG_ok : OKG awG where
  fit := fitG (by decide)
  kinds := fun x hx => by simp [awG] at hx; rcases hx with rfl | rfl <;> simp
  ops := fun x hx => by simp [awG] at hx; rcases hx with rfl | rfl <;> simp
  args := fun x hx => by simp [awG] at hx; rcases hx with rfl | rfl <;> exact ⟨by decide, by decide⟩
  ns := fun x hx => by simp [awG] at hx; rcases hx with rfl | rfl <;> simp
theorem parse_aw (w : World) (L : Libs w) : Calls Tryz.prog 9 #[.string ⟨#[110, 111, 100, 101, 32, 105, 110, 112, 117, 116, 32, 48, 32, 48, 10, 110, 111, 100, 101, 32, 115, 105, 110, 107, 32, 48, 32, 48, 10, 101, 100, 103, 101, 32, 48, 32, 49, 32, 48, 32, 107, 101, 121, 10]⟩] w fun r w' => ∃ s : GS, r = .returned (.tuple #[s.val, .int .i64 0, .int .i64 0]) ∧ GrAt w' w'.heap.size s awG ∧ Below w.heap.size w w' := by
  have h := parse_any awT w L (by decide)
  rw [← awT_eq, parse_show awG_ok] at h
  rw [awT_eq] at h
  exact h
theorem show_aw (s : GS) (w : World) (h : GrAt w w.heap.size s awG) (L : Libs w) : Calls Tryz.prog 7 #[s.val] w fun e w' => e = .returned (.tuple #[.string (bs awT), .int .i64 0]) ∧ Below w.heap.size w w' := by
  have h := show_any s awG w h L
  rw [okG_show awG_ok] at h
  rw [awT_eq] at h
  exact h

set_option maxHeartbeats 1600000 in
set_option maxRecDepth 100000 in
theorem awake_any (w : World) (L : Libs w) : Calls Tryz.prog 5 #[] w fun e w' => e = .returned (.bool true) ∧ Below w.heap.size w w' := by
  have HP := Lib.hid (parse_aw w L)
  have HL := Lib.hid L
  clear L
  go_enter Tryz.func5, Tryz.ntmps5
  go_wp2_with fail
  refine HP.out.mono ?_
  rintro r w1 ⟨s, rfl, hgr, hb1⟩
  obtain ⟨Pa, pn, pc, Ba, bn, bc, Na, nn, nc, Ea, en, ec⟩ := s
  have l3 := hgr.nodes.len
  have l4 := hgr.edges.len
  simp only [awG, List.length_cons, List.length_nil] at l3 l4
  subst l3; subst l4
  have hl1 := HL.out.below hb1 HL.out.size
  have HS := fun (o : Obj) => show_aw _ (w1.alloc o) ((hgr.keep (Same.alloc (Nat.le_refl _) o)).more (by simp)) (hl1.below ((Below.refl w1.heap.size w1).alloc (Nat.le_refl _) o) (Nat.le_trans HL.out.size hb1.size))
  have HSS := Lib.hid HS
  have HG := Lib.hid (And.intro hgr hb1)
  clear hgr hb1 hl1 HS HP
  unfold GS.val at HSS ⊢
  go_wp2_with fail
  refine (HSS.out _).mono ?_
  rintro r w2 ⟨rfl, hb2⟩
  have hgr2 := (HG.out.1.keep (Same.alloc (Nat.le_refl _) _)).belows hb2 (by simp)
  have b2 : w2.cell? ⟨w1.heap.size, 2, none⟩ = some (.slice Na 2 nc) := (hb2.cell (by simp)).trans ((World.cell?_alloc_new (w := w1) _ _ 2).trans rfl)
  have b3 : w2.cell? ⟨w1.heap.size, 3, none⟩ = some (.slice Ea 1 ec) := (hb2.cell (by simp)).trans ((World.cell?_alloc_new (w := w1) _ _ 3).trans rfl)
  obtain ⟨nb, no, x, rfl, -, hx, -, hk, -⟩ := hgr2.nodes.at_ (k := 1) (show 1 < 0 + 1 + 1 by omega)
  obtain ⟨eb, eo, y, rfl, -, hy, -, -, -, -, hq, -⟩ := hgr2.edges.at_ (k := 0) (show 0 < 0 + 1 by omega)
  simp [awG] at hx hy
  subst hx; subst hy
  simp only [Rep.node, Rep.edge, Nat.add_zero, Nat.one_mul, Nat.zero_mul] at hk hq
  have hsz : (bs awT).size = 44 := by rw [bs_size]; rfl
  have HB := Lib.hid (HG.out.2.trans (((Below.refl _ _).alloc HG.out.2.size _).trans (hb2.mono (by have := HG.out.2.size; simp; omega))))
  clear hgr2 hb2
  go_wp2_with fail
  go_ret
  exact ⟨rfl, HB.out⟩

end Go.Proofs.YtigdaaloagecgaaGreatDoor
