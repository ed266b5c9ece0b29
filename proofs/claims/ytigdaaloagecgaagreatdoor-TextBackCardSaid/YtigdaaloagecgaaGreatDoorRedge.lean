/-
  text.reader's edge: its walk. Condition: the library's variables hold what its text lays.
-/
import Derived.Test.YtigdaaloagecgaaGreatDoorRdk
namespace Go.Proofs.YtigdaaloagecgaaGreatDoor
open Go.RowKit

theorem Tryz.infoEdge : (Tryz.prog.info? 45).map (fun i => (i.zero, i.size, i.bytes)) = some (some (.agg #[.int .i64 0, .int .i64 0, .int .i64 0, .bool false]), 4, 32) := by kernel_rfl

set_option maxHeartbeats 1600000 in
set_option maxRecDepth 100000 in
theorem redge_any (B b : Nat) (v : Value × Value × Value × Value) (vs : List Value) (g : Gr) (e : Int) (wb wo c : Nat) (x0 x1 x2 x3 : List UInt8) (w : World) (h : Rd B b v vs g e w) (L : Libs w) (hB : 10 ≤ B) (hb : B ≤ b) (hc4 : 4 ≤ c) (hcm : c ≤ 1000)
    (hl : Arr Rep.str w w.heap.size (some ⟨wb, wo, none⟩) 4 [x0, x1, x2, x3]) (hwb : wb ≠ b) (hx : ∀ x ∈ [x0, x1, x2, x3], x.length ≤ 1000000) (hge : g.edges.length ≤ 1000) :
    Calls Tryz.prog 43 #[.pointer (some ⟨b, 0, none⟩), .slice (some ⟨wb, wo, none⟩) 4 c] w fun r w' => r = .returned (.tuple #[]) ∧ ∃ v' : Value × Value × Value × Value, Rd B b v' vs { g with edges := g.edges ++ [edgeOf x0 x1 x2 x3] } (edgeE g x0 x1 x2 x3 e) w' ∧ Below B w w' ∧ StrK w w' := by
  obtain ⟨is, his, _⟩ := Option.map_eq_some_iff.1 (show (Tryz.prog.info? 9).map (·.size) = some 1 by kernel_rfl)
  have hcut := fun W : World => run_cut_hi (P := Tryz.prog) 55 9 is Tryz.underlying55 his (some ⟨wb, wo, none⟩) 4 c 3 (by omega) W
  have HS := Lib.hid (rsmall_any b v e (some ⟨wb, wo, none⟩) 3 c [x0, x1, x2] w h.rb L (by omega) (by have := hl.take (k := 3) (by omega); simpa using this) (fun p hp => by injection hp with hp; subst hp; exact hwb) (fun x hx' => hx x (by simp only [List.mem_cons, List.not_mem_nil, or_false] at hx' ⊢; rcases hx' with h | h | h <;> simp [h])) (by omega))
  obtain ⟨_, _, _, he0, hwbs, hx3, hx3', hc3, _⟩ := hl.at_ (k := 3) (by omega)
  clear hx3'
  injection he0 with he0; injection he0 with he1 he2; subst he1; subst he2
  simp only [List.getElem?_cons_succ, List.getElem?_cons_zero] at hx3
  injection hx3 with hx3
  subst hx3
  simp only [Rep.str, Nat.mul_one, Nat.add_zero] at hc3
  have HR := Lib.hid h
  have hbs := heap_lt h.rb
  have HC3 := Lib.hid hc3
  clear h hl hc3 L
  go_enter Tryz.func43, Tryz.ntmps43
  go_wp2_with fail
  refine HS.out.mono ?_
  rintro r w1 ⟨A1, c1, rfl, hn1, hm1, hA1, hAb1, hr1, hg1⟩
  have c3 : w1.cell? ⟨wb, wo + 3, none⟩ = some (.string (bs x3)) := (World.cell?_of_block (w := w) (a := ⟨wb, wo + 3, none⟩) (hg1.block wb hwbs (by simpa using hwb))).trans HC3.out
  have hs1 := hg1.size
  have H1 := Lib.hid (And.intro hr1 (And.intro hg1 (And.intro hA1 hAb1)))
  clear hr1 hg1 hA1 hAb1
  have hwb1 : wb < w1.heap.size := by omega
  go_wp2_with fail
  refine (rname_any b v (smallE e [x0, x1, x2]) w1.heap.size 2 2 wayL x3 _ (H1.out.1.later ((Below.refl _ _).alloc (Nat.le_refl _) _)) rfl (by omega) (fun j y hy => ?_)).mono ?_
  · rw [World.cell?_alloc_new]
    match j, hy with
    | 0, hy => simp [wayL] at hy; subst hy; rfl
    | 1, hy => simp [wayL] at hy; subst hy; rfl
  rintro r w2 ⟨rfl, hr2, hg2⟩
  have hg2' : w.grownBy w2 (some b) := grown_trans (grown_trans H1.out.2.1 (grown_of_below ((Below.refl _ _).alloc (Nat.le_refl _) _) _)) hg2
  have hAb := H1.out.2.2.2
  have hA2 : Arr Rep.int w2 w2.heap.size A1 3 ([x0, x1, x2].map fun x => clampI (numV x)) :=
    arrInt_grown (H1.out.2.2.1.belows (w' := w1.alloc _) ((Below.refl _ _).alloc (Nat.le_refl _) _) (Nat.le_refl _)) (fun p hp => by have := hAb p hp; omega) (by simp) hg2
  have H2 := Lib.hid (And.intro hr2 (And.intro hg2' (And.intro hA2 hAb)))
  clear hr2 hg2 hg2' hA2 hAb c3
  go_wp2_with fail
  refine (rfits_any b v _ A1 3 c1 _ _ H2.out.1 H2.out.2.2.1 (by unfold maxLen; omega)).mono ?_
  rintro r w3 ⟨rfl, hr3, hg3⟩
  have hA3 := arrInt_grown H2.out.2.2.1 (b := b) (fun p hp => by have := H2.out.2.2.2 p hp; omega) (Nat.le_refl _) hg3
  have hR3 := HR.out.err hr3 (grown_trans H2.out.2.1 hg3)
  have hg3' := grown_trans H2.out.2.1 hg3
  obtain ⟨vP, vB, vN, vE⟩ := v
  obtain ⟨EA, ec, hvE⟩ := own_slice hR3.edges
  simp only at hvE
  subst hvE
  have e3 : w3.cell? ⟨b, 3, none⟩ = some (.slice EA g.edges.length ec) := by rw [Lib.cell_of_heap hR3.rb]; rfl
  have H3 := Lib.hid (And.intro hR3 (And.intro hg3' (And.intro hA3 H2.out.2.2.2)))
  clear hr3 hg3 hA3 hR3 hg3'
  go_wp2_with fail
  refine (rroom_any b _ _ _ 64 _ H3.out.1.rb).mono ?_
  rintro r w4 ⟨rfl, hr4, hg4⟩
  have hR4 := H3.out.1.err hr4 hg4
  have hA4 := arrInt_grown H3.out.2.2.1 (b := b) (fun p hp => by have := H3.out.2.2.2 p hp; omega) (Nat.le_refl _) hg4
  have hg4' := grown_trans H3.out.2.1 hg4
  clear e3
  have e3 : w4.cell? ⟨b, 3, none⟩ = some (.slice EA g.edges.length ec) := by rw [Lib.cell_of_heap hR4.rb]; rfl
  have hfz : w4.frozen? ⟨b, 3, none⟩ = false := Lib.frozen_of_heap hR4.rb 3
  obtain ⟨a, o, rfl, ha, hx4⟩ := hA4.2 (by omega)
  have f0 := (hx4 0 _ rfl).1
  have f1 := (hx4 1 _ rfl).1
  have f2 := (hx4 2 _ rfl).1
  simp only [Rep.int, Nat.mul_one, Nat.add_zero] at f0 f1 f2
  have hab : a ≠ b := by have := H3.out.2.2.2 _ rfl; simp only at this; omega
  obtain ⟨ie, hie, hez, hes, heb⟩ := info_parts Tryz.infoEdge
  have hb4 := heap_lt hR4.rb
  have H4 := Lib.hid (And.intro hR4 hg4')
  have HE := Lib.hid hR4.edges
  clear hr4 hg4 hR4 hA4 hg4' hx4
  generalize hk0 : clampI (numV x0) = k0 at f0
  generalize hk1 : clampI (numV x1) = k1 at f1
  generalize hk2 : clampI (numV x2) = k2 at f2
  have HD : Hid (edgeOf x0 x1 x2 x3 = ⟨k0, k1, k2, placeOf wayL x3 == 2⟩) := by show _ = _; rw [← hk0, ← hk1, ← hk2]; rfl
  clear hk0 hk1 hk2
  have hEA : some a ≠ (Value.slice EA g.edges.length ec).ownBlock := fun he => by have h1 := HR.out.edges.lt a he.symm; have h2 := H3.out.2.2.2 _ rfl; simp only at h2; omega
  have ha4 : a < w4.heap.size := by omega
  have hEb : some b ≠ (Value.slice EA g.edges.length ec).ownBlock := fun he => own_rb HE.out H4.out.1.rb (by decide) he.symm
  go_upto_region 4 with fail
  refine wp_region_N (fun k => decide (k < 19)) (fun W => W.cell? ⟨a, o, none⟩ = some (.int .i64 k0) ∧ W.cell? ⟨a, o + 1, none⟩ = some (.int .i64 k1) ∧ W.cell? ⟨a, o + 2, none⟩ = some (.int .i64 k2) ∧ W.cell? ⟨b, 3, none⟩ = some (.slice EA g.edges.length ec))
    [0, 1, 2, 3, 4, 6, 7, 9, 10, 12, 13, 15, 16] [5, 8, 11, 14, 17] 6 (by kernel_rfl) (by kernel_rfl) rfl (fun d _ _ _ _ h => by cases d <;> exact h) (by kernel_rfl) (by kernel_rfl) ⟨f0, f1, f2, e3⟩ ?_
  simp only [List.filterMap_cons, List.getElem?_toArray, List.getElem?_cons_succ, List.getElem?_cons_zero, List.filterMap_nil]
  repeat (quiet_step (fail))
  refine wpQuiet_nil ?_
  refine C_step (v := ?v1) rfl ?h1 ?_
  case h1 =>
    rintro W ⟨g0, g1, g2, g3⟩
    go_simp
    rfl
  refine C_step (v := ?v2) rfl ?h2 ?_
  case h2 =>
    rintro W ⟨g0, g1, g2, g3⟩
    go_simp
    rfl
  refine C_step (v := ?v3) rfl ?h3 ?_
  case h3 =>
    rintro W ⟨g0, g1, g2, g3⟩
    go_simp
    rfl
  refine C_step (v := ?v4) rfl ?h4 ?_
  case h4 =>
    rintro W ⟨g0, g1, g2, g3⟩
    go_simp
    rfl
  refine C_step (v := ?v5) rfl ?h5 ?_
  case h5 =>
    rintro W ⟨g0, g1, g2, g3⟩
    go_simp
    rfl
  refine wpQuiet_nil ?_
  refine N_one (k := 18) (by kernel_rfl) rfl rfl ?_
  go_simp
  refine ⟨?hS, ?_⟩
  case hS => exact Lib.hid trivial
  refine N_tail 19 5 (by rfl) (fun j hj => by simp; omega) (by kernel_rfl) ?_
  simp only [List.drop_succ_cons, List.drop_zero]
  go_wp2_with (at_builtin; refine wpList_append_lies _ rfl _ _ 24 rfl B 45 ie _ 4 32 Tryz.underlying24 hie hez hes heb rfl (by omega) _ g.edges.length _ rfl (HE.out.alloc _) ⟨w4.heap.size, 0, none⟩ 1 1 (edgeCellsL [⟨k0, k1, k2, placeOf wayL x3 == 2⟩]) rfl rfl ?hnews ?h1 (by omega) ?h63 ?hbytes ?hbase _ rfl ?_)
  case hnews => exact World.news_of_block (heap_alloc_new w4 _ _)
  case h1 => intro u hu; simp [edgeCellsL] at hu; rcases hu with h | h | h | h <;> (subst h; rfl)
  case h63 => unfold maxLen; omega
  case hbytes => omega
  case hbase => simp; omega
  intro g6 c6 w6 hown6 hgrow6 _ _
  have hb6 : b < w6.heap.size := by have := hgrow6.size; simp at this; omega
  have e6 : w6.cell? ⟨b, 3, none⟩ = some (.slice EA g.edges.length ec) := (hgrow6.cell_far ⟨b, 3, none⟩ (show b < (w4.alloc _).heap.size by simp; omega) hEb).trans (Lib.cell?_alloc_marked _ e3)
  have z6 : w6.frozen? ⟨b, 3, none⟩ = false := (hgrow6.frozen_far ⟨b, 3, none⟩ (show b < (w4.alloc _).heap.size by simp; omega) hEb).trans ((World.frozen?_of_block (((Below.refl w4.heap.size w4).alloc (Nat.le_refl _) _).block b hb4)).trans hfz)
  have H6 := Lib.hid (And.intro hown6 (grown_undrew hgrow6))
  clear hown6 hgrow6
  go_wp2_with fail
  go_end0
  have hR5 := H4.out.1.later ((Below.refl w4.heap.size w4).alloc (Nat.le_refl _) (.cells #[.int .i64 k0, .int .i64 k1, .int .i64 k2, .bool (placeOf wayL x3 == 2)] 45))
  have hrb6 : RB b (vP, vB, vN, .slice EA g.edges.length ec) _ w6 := (H6.out.2.block b (heap_lt hR5.rb) (fun he => own_rb hR5.edges hR5.rb (by decide) he.symm)).trans hR5.rb
  have hB4 : B ≤ w4.heap.size := by omega
  refine ⟨rfl, _, by rw [HD.out]; exact hR5.pushEdge ⟨k0, k1, k2, placeOf wayL x3 == 2⟩ H6.out.1 H6.out.2, ?_, ?_⟩
  · exact ((below_grown H4.out.2 hb (by omega)).trans (((Below.refl B w4).alloc hB4 _).trans (below_row hR5.edges H6.out.2 (by simp; omega)))).setCell hb _
  · exact (((StrK.grown H4.out.2 HR.out.rb).trans (StrK.below ((Below.refl w4.heap.size w4).alloc (Nat.le_refl _) _))).trans (StrK.row hR5.edges (by decide) H6.out.2)).trans (StrK.cell hrb6 _ _)

end Go.Proofs.YtigdaaloagecgaaGreatDoor
