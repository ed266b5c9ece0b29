/-
  text.reader's ins: its walk. Condition: the library's variables hold what its text lays.
-/
import Derived.Test.YtigdaaloagecgaaGreatDoorRd3
namespace Go.Proofs.YtigdaaloagecgaaGreatDoor
open Go.RowKit

theorem Tryz.infoIns : (Tryz.prog.info? 59).map (fun i => (i.zero, i.size, i.bytes)) = some (some (.agg #[.int .i64 0, .int .i64 0]), 2, 16) := by kernel_rfl

set_option maxHeartbeats 1600000 in
set_option maxRecDepth 100000 in
theorem rins_any (B b : Nat) (v : Value × Value × Value × Value) (vs : List Value) (g : Gr) (e : Int) (wb wo c : Nat) (x0 x1 : List UInt8) (w : World) (h : Rd B b v vs g e w) (L : Libs w) (hB : 10 ≤ B) (hb : B ≤ b)
    (hl : Arr Rep.str w w.heap.size (some ⟨wb, wo, none⟩) 2 [x0, x1]) (hwb : wb ≠ b) (hx : ∀ x ∈ [x0, x1], x.length ≤ 1000000) (hgn : g.nodes.length ≤ 1000) (hgp : ∀ x ∈ g.nodes, x.prog.length ≤ 1000) :
    Calls Tryz.prog 42 #[.pointer (some ⟨b, 0, none⟩), .slice (some ⟨wb, wo, none⟩) 2 c] w fun r w' => r = .returned (.tuple #[]) ∧ ∃ v' vs', Rd B b v' vs' { g with nodes := addIns g.nodes (insOf x0 x1) } (insE g x0 x1 e) w' ∧ Below B w w' ∧ StrK w w' := by
  obtain ⟨_, _, y0, he0, hwbs, hy0, -, hc0, -⟩ := hl.at_ (k := 0) (by omega)
  injection he0 with he0; injection he0 with he1 he2; subst he1; subst he2
  obtain ⟨_, _, y1, he0, -, hy1, -, hc1, -⟩ := hl.at_ (k := 1) (by omega)
  injection he0 with he0; injection he0 with he1 he2; subst he1; subst he2
  simp only [List.getElem?_cons_succ, List.getElem?_cons_zero, Option.some.injEq] at hy0 hy1
  subst hy0; subst hy1
  simp only [Rep.str, Nat.mul_one, Nat.add_zero] at hc0 hc1
  have hx1 : x1.length ≤ 1000000 := hx x1 (by simp)
  have HK : Hid (∀ {W : World} {i : Nat} {u : Value}, w.grownBy W (some b) → w.cell? ⟨wb, wo + i, none⟩ = some u → W.cell? ⟨wb, wo + i, none⟩ = some u) := fun hg hc => (World.cell?_of_block (hg.block wb hwbs (by simpa using hwb))).trans hc
  have HR := Lib.hid h
  have HL := Lib.hid L
  have hbs := heap_lt h.rb
  have HC1 := Lib.hid hc1
  have HN := Lib.hid (codes_any w.drew (L.below (Below.refl w.heap.size w).drew L.size))
  have HGP := Lib.hid hgp
  clear h hl L hc1 hx hgp
  go_enter Tryz.func42, Tryz.ntmps42
  go_upto_region 0 with fail
  refine wp_region_N (fun k => decide (k < 5)) (fun W => W.cell? ⟨wb, wo, none⟩ = some (.string (bs x0))) [0, 2, 3] [4] 3 (by kernel_rfl) (by kernel_rfl) rfl (fun d _ _ _ _ h => by cases d <;> exact h) (by kernel_rfl) (by kernel_rfl) hc0 ?_
  simp only [List.filterMap_cons, List.getElem?_toArray, List.getElem?_cons_succ, List.getElem?_cons_zero, List.filterMap_nil]
  repeat (quiet_step (fail))
  refine wpQuiet_nil ?_
  refine C_step (v := ?v1) rfl ?h1 ?_
  case h1 =>
    rintro W g0
    go_simp
    rfl
  refine wpQuiet_nil ?_
  refine N_one (k := 1) (by kernel_rfl) rfl rfl ?_
  go_simp
  refine HN.out.mono ?_
  rintro r w1 ⟨rfl, hw1⟩
  subst hw1
  refine ⟨Lib.hid (Lib.cell?_alloc_marked _ hc0), ?_⟩
  refine N_tail 5 2 (by rfl) (fun j hj => by simp; omega) (by kernel_rfl) ?_
  simp only [List.drop_succ_cons, List.drop_zero]
  have HRB1 := Lib.hid (HR.out.rb.later (((Below.refl w.heap.size w).drew.alloc (Nat.le_refl _) _) : Below w.heap.size w (w.drew.alloc (.cells (nameCells codesL) 9))))
  clear HN
  go_wp2_with fail
  refine (rname_any b v e w.heap.size 16 16 codesL x0 _ ?hrb codesL_len (by omega) ?hns).mono ?_
  case hrb => exact HRB1.out
  case hns =>
    intro j y hy
    exact (World.cell?_alloc_new (w := w) _ _ j).trans (nameCells_at hy)
  rintro r w2 ⟨rfl, hr2, hg2⟩
  have hg2' : w.grownBy w2 (some b) := grown_trans (grown_of_below ((Below.refl w.heap.size w).alloc (Nat.le_refl _) _) (some b)) (grown_undrew hg2)
  have c1 : w2.cell? ⟨wb, wo + 1, none⟩ = some (.string (bs x1)) := HK.out hg2' HC1.out
  have hwb2 : wb < w2.heap.size := by have := hg2'.size; omega
  have hb2 := heap_lt hr2
  have H2 := Lib.hid (And.intro hr2 hg2')
  clear hr2 hg2 hg2' HRB1 hc0
  go_wp2_with fail
  refine (rnumber_any b v (placeE codesL e x0) x1 _ H2.out.1 (HL.out.grown H2.out.2 (by omega)) hx1).mono ?_
  rintro r w3 ⟨rfl, hr3, hg3⟩
  have hg3' : w.grownBy w3 (some b) := grown_trans H2.out.2 hg3
  have hnv : (numOf x1).getD 0 = numV x1 := rfl
  rw [hnv]
  clear hnv
  have hb3 := heap_lt hr3
  have hR3 := HR.out.err hr3 hg3'
  obtain ⟨vP, vB, vN, vE⟩ := v
  obtain ⟨NA, nc, hvN⟩ := own_slice hR3.nodes
  simp only at hvN
  subst hvN
  have e3 : w3.cell? ⟨b, 2, none⟩ = some (.slice NA g.nodes.length nc) := by rw [Lib.cell_of_heap hR3.rb]; rfl
  have H3 := Lib.hid (And.intro hR3 hg3')
  clear hr3 hg3 hg3' c1 hR3
  by_cases h0 : g.nodes = []
  · have hn0 : g.nodes.length = 0 := by rw [h0]; rfl
    rw [hn0] at e3
    clear hn0
    go_wp2_with fail
    refine (rfail_any b _ _ 4 _ H3.out.1.rb).mono ?_
    rintro r w4 ⟨rfl, hr4, hg4⟩
    have H4 := Lib.hid (And.intro (H3.out.1.err hr4 hg4) (grown_trans H3.out.2 hg4))
    clear hr4 hg4
    go_wp2_with fail
    refine bodyPost_ret (results_none rfl _ _ _) rfl ?_
    have e1 : addIns g.nodes (insOf x0 x1) = g.nodes := by rw [h0]; rfl
    have e2 : insE g x0 x1 e = orE (numE (placeE codesL e x0) x1) 4 := by unfold insE; rw [if_pos h0]
    rw [e1, e2]
    exact ⟨rfl, _, vs, H4.out.1, below_grown H4.out.2 hb (by omega), StrK.grown H4.out.2 HR.out.rb⟩
  · obtain ⟨N, x, hN, hadd, hlast⟩ := addIns_eq g.nodes h0 (insOf x0 x1)
    have hxm : x ∈ g.nodes := by rw [hN]; simp
    have hxp := HGP.out x hxm
    have hnl : g.nodes.length = N.length + 1 := by rw [hN]; simp
    have hvl := H3.out.1.vlen
    rw [hnl] at hvl hgn e3
    obtain ⟨us, u, rfl⟩ : ∃ us u, vs = us ++ [u] := by
      have hne : vs ≠ [] := fun e => by rw [e] at hvl; simp at hvl
      exact ⟨vs.dropLast, vs.getLast hne, (List.dropLast_concat_getLast hne).symm⟩
    have hul : us.length = N.length := by simpa using hvl
    have hnod := H3.out.1.nodes
    simp only [hnl] at hnod
    obtain ⟨nb, hnA⟩ : ∃ nb, NA = some ⟨nb, 0, none⟩ := by
      obtain ⟨g', cap', hv', _⟩ := hnod.form (by omega)
      injection hv' with hv'
      exact ⟨g', hv'⟩
    subst hnA
    have hcu : w3.cell? ⟨nb, N.length * 4 + 3, none⟩ = some u := by
      have := hnod.cells (g := nb) rfl (N.length * 4 + 3) u (by
        rw [hN, nodeCellsL_append hul, List.getElem?_append_right (by rw [nodeCellsL_len _ _ hul]; omega), nodeCellsL_len _ _ hul, show N.length * 4 + 3 - N.length * 4 = 3 by omega]
        rfl)
      simpa [Addr.lit_add] using this
    have hup := H3.out.1.progs N.length x u (by rw [hN]; simp) (by rw [← hul]; simp)
    obtain ⟨UA, uc, hvu⟩ := own_slice hup
    subst hvu
    have HI := Lib.hid (And.intro hN (And.intro hadd (And.intro hlast (And.intro hul hnl))))
    have HNF := Lib.hid hnod
    clear hN hadd hlast hul hnl hvl hnod hup HGP hxm
    generalize hm : N.length = m at e3 hcu hgn
    have hm' : m ≤ 999 := by omega
    generalize hq : x.prog.length = q at hcu hxp
    have HM := Lib.hid (And.intro hm hq)
    clear hm hq
    go_wp2_with fail
    refine (rroom_any b _ _ _ 64 _ H3.out.1.rb).mono ?_
    rintro r w4 ⟨rfl, hr4, hg4⟩
    have hR4 := H3.out.1.err hr4 hg4
    have hg4' := grown_trans H3.out.2 hg4
    have hnbb : nb ≠ b := fun e2 => own_rb HNF.out H3.out.1.rb (by decide) (by rw [e2]; rfl)
    have hnbs : nb < w3.heap.size := by have := HNF.out.lt nb rfl; omega
    have c4 : w4.cell? ⟨nb, m * 4 + 3, none⟩ = some (.slice UA q uc) := (World.cell?_of_block (hg4.block nb hnbs (by simpa using hnbb))).trans hcu
    have hnod4 := HNF.out.kept hg4 (.inr (by simpa [Value.ownBlock] using hnbb))
    have hfz := hnod4.frozenAt (m * 4 + 3)
    have hup4 := hR4.progs m x (.slice UA q uc) (by rw [HI.out.1, ← HM.out.1]; simp) (by rw [← HM.out.1, ← HI.out.2.2.2.1]; simp [HM.out.2])
    rw [HM.out.2] at hup4
    have hnu : nb < w4.heap.size := by have := hg4.size; omega
    have hne : some nb ≠ (Value.slice UA q uc).ownBlock := fun he => by
      obtain ⟨c1, h1⟩ := own_type hup4 he.symm
      obtain ⟨c2, h2⟩ := own_type hnod4 (g := nb) rfl
      rw [h1] at h2
      injection h2 with h2
      injection h2 with _ h2
      exact absurd h2 (by decide)
    obtain ⟨ie, hie, hez, hes, heb⟩ := info_parts Tryz.infoIns
    have HE := Lib.hid hup4
    have hb4 := heap_lt hR4.rb
    have H4 := Lib.hid (And.intro hR4 hg4')
    have HN4 := Lib.hid hnod4
    clear hr4 hg4 hR4 hg4' hup4 hcu e3 hnod4
    generalize hk0 : placeOf codesL x0 = k0
    generalize hk1 : numV x1 = k1
    have HD : Hid (insOf x0 x1 = ⟨k0, k1⟩) := by show _ = _; rw [← hk0, ← hk1]; rfl
    clear hk0 hk1
    go_wp2_with (at_builtin; refine wpList_append_lies _ rfl _ _ 41 rfl B 59 ie _ 2 16 Tryz.underlying41 hie hez hes heb rfl (by omega) _ q _ rfl (HE.out.alloc _) ⟨w4.heap.size, 0, none⟩ 1 1 (insCellsL [⟨k0, k1⟩]) rfl rfl ?hnews ?h1 (by omega) ?h63 ?hbytes ?hbase _ rfl ?_)
    case hnews => exact World.news_of_block (heap_alloc_new w4 _ _)
    case h1 => intro u hu; simp [insCellsL] at hu; rcases hu with h | h <;> (subst h; rfl)
    case h63 => unfold maxLen; omega
    case hbytes => omega
    case hbase => simp; omega
    intro g7 c7 w7 hown7 hgrow7 hat7 _
    have hb7 : nb < w7.heap.size := by have := hgrow7.size; simp at this; omega
    have e7 : w7.cell? ⟨nb, m * 4 + 3, none⟩ = some (.slice UA q uc) := (hgrow7.cell_far ⟨nb, m * 4 + 3, none⟩ (show nb < (w4.alloc _).heap.size by simp; omega) hne).trans (Lib.cell?_alloc_marked _ c4)
    have z7 : w7.frozen? ⟨nb, m * 4 + 3, none⟩ = false := (hgrow7.frozen_far ⟨nb, m * 4 + 3, none⟩ (show nb < (w4.alloc _).heap.size by simp; omega) hne).trans ((World.frozen?_of_block (((Below.refl w4.heap.size w4).alloc (Nat.le_refl _) _).block nb hnu)).trans hfz)
    have H7 := Lib.hid (And.intro hown7 (And.intro hgrow7 hat7))
    clear hown7 hgrow7 hat7
    go_wp2_with fail
    go_end0
    have hR7 := H4.out.1.later ((Below.refl w4.heap.size w4).alloc (Nat.le_refl _) (.cells #[.int .i64 k0, .int .i64 k1] 59))
    have hnodes : { g with nodes := addIns g.nodes (insOf x0 x1) } = { g with nodes := N ++ [{ x with prog := x.prog ++ [⟨k0, k1⟩] }] } := by rw [HI.out.2.1, HD.out]
    have herr : insE g x0 x1 e = if (64 : Int) ≤ (q : Int) then orE (numE (placeE codesL e x0) x1) 11 else numE (placeE codesL e x0) x1 := by
      unfold insE
      rw [if_neg h0, HI.out.2.2.1, HM.out.2]; rfl
    rw [hnodes, herr]
    have hpush := hR7.pushIns (y := ⟨k0, k1⟩) (W' := w7) (gb := g7) HI.out.1 rfl (by rw [HM.out.2]; exact H7.out.1) (by rw [HM.out.2]; exact H7.out.2.1) rfl (by rw [HM.out.2]; simpa using H7.out.2.2)
    rw [HM.out.1] at hpush
    have hB4 : B ≤ w4.heap.size := by omega
    have hupA := HE.out.alloc (.cells #[.int .i64 k0, .int .i64 k1] 59)
    refine ⟨rfl, _, _, hpush, ?_, ?_⟩
    · exact ((below_grown H4.out.2 hb (by omega)).trans (((Below.refl B w4).alloc hB4 _).trans (below_row hupA H7.out.2.1 (by simp; omega)))).setCell (HN4.out.lt nb rfl).1 _
    · have hN7 := (HN4.out.alloc (.cells #[.int .i64 k0, .int .i64 k1] 59)).kept H7.out.2.1 (.inr (fun e2 => hne e2))
      have hgs := (hN7.stored (m * 4 + 3) (.slice (some ⟨g7, 0, none⟩) (q + 1) c7)).2
      exact (((StrK.grown H4.out.2 HR.out.rb).trans (StrK.below ((Below.refl w4.heap.size w4).alloc (Nat.le_refl _) _))).trans (StrK.row hupA (by decide) H7.out.2.1)).trans (StrK.row hN7 (by decide) hgs)

end Go.Proofs.YtigdaaloagecgaaGreatDoor
