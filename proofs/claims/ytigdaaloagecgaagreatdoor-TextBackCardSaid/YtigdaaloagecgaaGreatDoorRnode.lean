/-
  text.reader's node: its walk. Condition: the library's variables hold what its text lays.
-/
import Derived.Test.YtigdaaloagecgaaGreatDoorRdk
namespace Go.Proofs.YtigdaaloagecgaaGreatDoor
open Go.RowKit

theorem Tryz.infoNode : (Tryz.prog.info? 43).map (fun i => (i.zero, i.size, i.bytes)) = some (some (.agg #[.int .i64 0, .int .i64 0, .int .i64 0, .slice none 0 0]), 4, 48) := by kernel_rfl

set_option maxHeartbeats 1600000 in
set_option maxRecDepth 100000 in
theorem rnode_any (B b : Nat) (v : Value × Value × Value × Value) (vs : List Value) (g : Gr) (e : Int) (wb wo c : Nat) (x0 x1 x2 : List UInt8) (w : World) (h : Rd B b v vs g e w) (L : Libs w) (hB : 10 ≤ B) (hb : B ≤ b)
    (hl : Arr Rep.str w w.heap.size (some ⟨wb, wo, none⟩) 3 [x0, x1, x2]) (hwb : wb ≠ b) (hx : ∀ x ∈ [x0, x1, x2], x.length ≤ 1000000) (hgn : g.nodes.length ≤ 1000) :
    Calls Tryz.prog 41 #[.pointer (some ⟨b, 0, none⟩), .slice (some ⟨wb, wo, none⟩) 3 c] w fun r w' => r = .returned (.tuple #[]) ∧ ∃ v' vs', Rd B b v' vs' { g with nodes := g.nodes ++ [nodeOf x0 x1 x2] } (nodeE g x0 x1 x2 e) w' ∧ Below B w w' ∧ StrK w w' := by
  obtain ⟨_, _, y0, he0, hwbs, hy0, -, hc0, -⟩ := hl.at_ (k := 0) (by omega)
  injection he0 with he0; injection he0 with he1 he2; subst he1; subst he2
  obtain ⟨_, _, y1, he0, -, hy1, -, hc1, -⟩ := hl.at_ (k := 1) (by omega)
  injection he0 with he0; injection he0 with he1 he2; subst he1; subst he2
  obtain ⟨_, _, y2, he0, -, hy2, -, hc2, -⟩ := hl.at_ (k := 2) (by omega)
  injection he0 with he0; injection he0 with he1 he2; subst he1; subst he2
  simp only [List.getElem?_cons_succ, List.getElem?_cons_zero, Option.some.injEq] at hy0 hy1 hy2
  subst hy0; subst hy1; subst hy2
  simp only [Rep.str, Nat.mul_one, Nat.add_zero] at hc0 hc1 hc2
  have hx1 : x1.length ≤ 1000000 := hx x1 (by simp)
  have hx2 : x2.length ≤ 1000000 := hx x2 (by simp)
  have HK : Hid (∀ {W : World} {i : Nat} {u : Value}, w.grownBy W (some b) → w.cell? ⟨wb, wo + i, none⟩ = some u → W.cell? ⟨wb, wo + i, none⟩ = some u) := fun hg hc => (World.cell?_of_block (hg.block wb hwbs (by simpa using hwb))).trans hc
  have HR := Lib.hid h
  have HL := Lib.hid L
  have hbs := heap_lt h.rb
  have HC1 := Lib.hid hc1
  have HC2 := Lib.hid hc2
  have HN := Lib.hid (kinds_any w.drew (L.below (Below.refl w.heap.size w).drew L.size))
  clear h hl L hc1 hc2 hx
  go_enter Tryz.func41, Tryz.ntmps41
  go_upto_region 0 with fail
  refine wp_region_N (fun k => decide (k < 5)) (fun W => W.cell? ⟨wb, wo, none⟩ = some (.string (bs x0))) [0, 2, 3] [4] 3 (by kernel_rfl) (by kernel_rfl) rfl (fun d _ _ _ _ h => by cases d <;> exact h) (by kernel_rfl) (by kernel_rfl) hc0 ?_
  simp only [List.filterMap_cons, List.getElem?_toArray, List.getElem?_cons_succ, List.getElem?_cons_zero, List.filterMap_nil]
  repeat (quiet_step (fail))
  refine wpQuiet_nil ?_
  refine C_step (v := ?v1) rfl ?h1 ?_
  case h1 =>
    rintro W g0
    go_simp
    rfl
  refine wpQuiet_nil ?_
  refine N_one (k := 1) (by kernel_rfl) rfl rfl ?_
  go_simp
  refine HN.out.mono ?_
  rintro r w1 ⟨rfl, hw1⟩
  subst hw1
  refine ⟨Lib.hid (Lib.cell?_alloc_marked _ hc0), ?_⟩
  refine N_tail 5 2 (by rfl) (fun j hj => by simp; omega) (by kernel_rfl) ?_
  simp only [List.drop_succ_cons, List.drop_zero]
  have hba : Below w.heap.size w (w.drew.alloc (.cells (nameCells kindsL) 9)) := (Below.refl w.heap.size w).drew.alloc (Nat.le_refl _) _
  have HBA := Lib.hid hba
  have HRB1 := Lib.hid (HR.out.rb.later hba)
  clear hba HN
  go_wp2_with fail
  refine (rname_any b v e w.heap.size 15 15 kindsL x0 _ ?hrb kindsL_len (by omega) ?hns).mono ?_
  case hrb => exact HRB1.out
  case hns =>
    intro j y hy
    exact (World.cell?_alloc_new (w := w) _ _ j).trans (nameCells_at hy)
  rintro r w2 ⟨rfl, hr2, hg2⟩
  have hg2' : w.grownBy w2 (some b) := grown_trans (grown_of_below ((Below.refl w.heap.size w).alloc (Nat.le_refl _) _) (some b)) (grown_undrew hg2)
  have c1 : w2.cell? ⟨wb, wo + 1, none⟩ = some (.string (bs x1)) := HK.out hg2' HC1.out
  have hwb2 : wb < w2.heap.size := by have := hg2'.size; omega
  have hb2 := heap_lt hr2
  have H2 := Lib.hid (And.intro hr2 hg2')
  clear hr2 hg2 hg2' HRB1 HBA hc0
  go_wp2_with fail
  refine (rsmall_any b v (placeE kindsL e x0) (some ⟨w2.heap.size, 0, none⟩) 1 1 [x1] _ (H2.out.1.later ((Below.refl _ _).alloc (Nat.le_refl _) _)) ?hlibs (by omega) ?harr ?hne (by intro y hy; simp at hy; subst hy; exact hx1) (by omega)).mono ?_
  case hlibs => exact (HL.out.grown H2.out.2 (by omega)).below ((Below.refl w2.heap.size w2).alloc (Nat.le_refl _) _) (by omega)
  case harr =>
    refine ⟨rfl, fun _ => ⟨w2.heap.size, 0, rfl, by simp, fun i y hy => ?_⟩⟩
    match i, hy with
    | 0, hy =>
      simp at hy; subst hy
      simp only [Rep.str, Nat.mul_one, Nat.add_zero]
      exact ⟨(World.cell?_alloc_new (w := w2) _ _ 0).trans rfl, by unfold maxLen; omega⟩
  case hne => intro p hp; injection hp with hp; subst hp; have := heap_lt H2.out.1; simp; omega
  rintro r w3 ⟨A1, cc, rfl, hn1, hm1, hA1, hAb1, hr3, hg3⟩
  have hg3' : w.grownBy w3 (some b) := grown_trans H2.out.2 (grown_trans (grown_of_below ((Below.refl w2.heap.size w2).alloc (Nat.le_refl _) _) (some b)) hg3)
  have c2 : w3.cell? ⟨wb, wo + 2, none⟩ = some (.string (bs x2)) := HK.out hg3' HC2.out
  have hwb3 : wb < w3.heap.size := by have := hg3'.size; omega
  have hb3 := heap_lt hr3
  have H3 := Lib.hid (And.intro hr3 (And.intro hg3' (And.intro hA1 hAb1)))
  clear hr3 hg3 hg3' hA1 hAb1 c1
  go_wp2_with fail
  refine (rnumber_any b v _ x2 _ H3.out.1 (HL.out.grown H3.out.2.1 (by omega)) hx2).mono ?_
  rintro r w4 ⟨rfl, hr4, hg4⟩
  have hg4' : w.grownBy w4 (some b) := grown_trans H3.out.2.1 hg4
  have hnv : (numOf x2).getD 0 = numV x2 := rfl
  rw [hnv]
  clear hnv
  have hA4 := arrInt_grown (b := b) H3.out.2.2.1 (fun p hp => by have := H3.out.2.2.2 p hp; simp at this; omega) (Nat.le_refl _) hg4
  have hb4 := heap_lt hr4
  have H4 := Lib.hid (And.intro hr4 (And.intro hg4' (And.intro hA4 H3.out.2.2.2)))
  clear hr4 hg4 hg4' hA4 c2
  generalize hn2 : numV x2 = n2
  have HN2 := Lib.hid hn2
  clear hn2
  go_wp2_with fail
  refine (rfits_any b v _ A1 1 cc _ _ H4.out.1 H4.out.2.2.1 (by unfold maxLen; omega)).mono ?_
  rintro r w5 ⟨rfl, hr5, hg5⟩
  have hA5 := arrInt_grown (b := b) H4.out.2.2.1 (fun p hp => by have := H4.out.2.2.2 p hp; simp at this; omega) (Nat.le_refl _) hg5
  have hg5' := grown_trans H4.out.2.1 hg5
  have hR5 := HR.out.err hr5 hg5'
  obtain ⟨vP, vB, vN, vE⟩ := v
  obtain ⟨NA, nc, hvN⟩ := own_slice hR5.nodes
  simp only at hvN
  subst hvN
  have e5 : w5.cell? ⟨b, 2, none⟩ = some (.slice NA g.nodes.length nc) := by rw [Lib.cell_of_heap hR5.rb]; rfl
  have H5 := Lib.hid (And.intro hR5 (And.intro hg5' (And.intro hA5 H4.out.2.2.2)))
  clear hr5 hg5 hA5 hR5 hg5'
  go_wp2_with fail
  refine (rroom_any b _ _ _ 32 _ H5.out.1.rb).mono ?_
  rintro r w6 ⟨rfl, hr6, hg6⟩
  have hR6 := H5.out.1.err hr6 hg6
  have hA6 := arrInt_grown (b := b) H5.out.2.2.1 (fun p hp => by have := H5.out.2.2.2 p hp; simp at this; omega) (Nat.le_refl _) hg6
  have hg6' := grown_trans H5.out.2.1 hg6
  clear e5
  have e6 : w6.cell? ⟨b, 2, none⟩ = some (.slice NA g.nodes.length nc) := by rw [Lib.cell_of_heap hR6.rb]; rfl
  have hfz : w6.frozen? ⟨b, 2, none⟩ = false := Lib.frozen_of_heap hR6.rb 2
  obtain ⟨a, o, rfl, ha, hx6⟩ := hA6.2 (by omega)
  have f0 := (hx6 0 _ rfl).1
  simp only [Rep.int, Nat.mul_one, Nat.add_zero] at f0
  have hab : w2.heap.size < a := by have := H5.out.2.2.2 _ rfl; simp at this; omega
  obtain ⟨ie, hie, hez, hes, heb⟩ := info_parts Tryz.infoNode
  have hb6 := heap_lt hR6.rb
  have HE := Lib.hid hR6.nodes
  have H6 := Lib.hid (And.intro hR6 hg6')
  clear hr6 hg6 hR6 hA6 hg6' hx6
  generalize hk1 : clampI (numV x1) = k1 at f0
  generalize hk0 : placeOf kindsL x0 = k0
  have HD : Hid (nodeOf x0 x1 x2 = ⟨k0, k1, n2, []⟩) := by show _ = _; rw [← hk0, ← hk1, ← HN2.out]; rfl
  clear hk0 hk1
  have hEb : some b ≠ (Value.slice NA g.nodes.length nc).ownBlock := fun he => own_rb HE.out H6.out.1.rb (by decide) he.symm
  go_upto_region 5 with fail
  refine wp_region_N (fun k => decide (k < 13)) (fun W => W.cell? ⟨a, o, none⟩ = some (.int .i64 k1) ∧ W.cell? ⟨b, 2, none⟩ = some (.slice NA g.nodes.length nc)) [0, 1, 2, 3, 4, 6, 7, 8, 10] [5, 9, 11] 6 (by kernel_rfl) (by kernel_rfl) rfl (fun d _ _ _ _ h => by cases d <;> exact h) (by kernel_rfl) (by kernel_rfl) ⟨f0, e6⟩ ?_
  simp only [List.filterMap_cons, List.getElem?_toArray, List.getElem?_cons_succ, List.getElem?_cons_zero, List.filterMap_nil]
  repeat (quiet_step (fail))
  refine wpQuiet_nil ?_
  refine C_step (v := ?v2) rfl ?h2 ?_
  case h2 =>
    rintro W ⟨g0, g1⟩
    go_simp
    rfl
  refine C_step (v := ?v3) rfl ?h3 ?_
  case h3 =>
    rintro W ⟨g0, g1⟩
    go_simp
    rfl
  refine C_step (v := ?v4) rfl ?h4 ?_
  case h4 =>
    rintro W ⟨g0, g1⟩
    go_simp
    rfl
  refine wpQuiet_nil ?_
  refine N_one (k := 12) (by kernel_rfl) rfl rfl ?_
  go_simp
  refine ⟨?hS, ?_⟩
  case hS => exact Lib.hid trivial
  refine N_tail 13 5 (by rfl) (fun j hj => by simp; omega) (by kernel_rfl) ?_
  simp only [List.drop_succ_cons, List.drop_zero]
  go_wp2_with (at_builtin; refine wpList_append_lies _ rfl _ _ 23 rfl B 43 ie _ 4 48 Tryz.underlying23 hie hez hes heb rfl (by omega) _ g.nodes.length _ rfl (HE.out.alloc _) ⟨w6.heap.size, 0, none⟩ 1 1 [.int .i64 k0, .int .i64 k1, .int .i64 n2, .slice none 0 0] rfl rfl ?hnews ?h1 (by omega) ?h63 ?hbytes ?hbase _ rfl ?_)
  case hnews => exact World.news_of_block (heap_alloc_new w6 _ _)
  case h1 => intro u hu; simp at hu; rcases hu with h | h | h | h <;> (subst h; rfl)
  case h63 => unfold maxLen; omega
  case hbytes => omega
  case hbase => simp; omega
  intro g7 c7 w7 hown7 hgrow7 _ _
  have hb7 : b < w7.heap.size := by have := hgrow7.size; simp at this; omega
  have e7 : w7.cell? ⟨b, 2, none⟩ = some (.slice NA g.nodes.length nc) := (hgrow7.cell_far ⟨b, 2, none⟩ (show b < (w6.alloc _).heap.size by simp; omega) hEb).trans (Lib.cell?_alloc_marked _ e6)
  have z7 : w7.frozen? ⟨b, 2, none⟩ = false := (hgrow7.frozen_far ⟨b, 2, none⟩ (show b < (w6.alloc _).heap.size by simp; omega) hEb).trans ((World.frozen?_of_block (((Below.refl w6.heap.size w6).alloc (Nat.le_refl _) _).block b hb6)).trans hfz)
  have H7 := Lib.hid (And.intro hown7 (grown_undrew hgrow7))
  clear hown7 hgrow7
  go_wp2_with fail
  go_end0
  have hR7 := H6.out.1.later ((Below.refl w6.heap.size w6).alloc (Nat.le_refl _) (.cells #[.int .i64 k0, .int .i64 k1, .int .i64 n2, .slice none 0 0] 43))
  have hrb7 : RB b (vP, vB, .slice NA g.nodes.length nc, vE) _ w7 := (H7.out.2.block b (heap_lt hR7.rb) (fun he => own_rb hR7.nodes hR7.rb (by decide) he.symm)).trans hR7.rb
  have hB6 : B ≤ w6.heap.size := by omega
  refine ⟨rfl, _, _, by rw [HD.out]; exact hR7.pushNode ⟨k0, k1, n2, []⟩ rfl H7.out.1 H7.out.2, ?_, ?_⟩
  · exact ((below_grown H6.out.2 hb (by omega)).trans (((Below.refl B w6).alloc hB6 _).trans (below_row hR7.nodes H7.out.2 (by simp; omega)))).setCell hb _
  · exact (((StrK.grown H6.out.2 HR.out.rb).trans (StrK.below ((Below.refl w6.heap.size w6).alloc (Nat.le_refl _) _))).trans (StrK.row hR7.nodes (by decide) H7.out.2)).trans (StrK.cell hrb7 _ _)

end Go.Proofs.YtigdaaloagecgaaGreatDoor
