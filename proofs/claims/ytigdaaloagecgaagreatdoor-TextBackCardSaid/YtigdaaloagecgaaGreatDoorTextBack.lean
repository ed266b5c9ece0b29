/-
  backwashlaw23.TextBack: its walk. Conditions: the library's variables hold what its text lays; the text is no longer than a string can be.
-/
import Derived.Test.YtigdaaloagecgaaGreatDoorAwake
import Derived.Test.YtigdaaloagecgaaGreatDoorPut2
import Derived.Test.YtigdaaloagecgaaGreatDoorSame
import Derived.Laws.IdiomStrings
namespace Go.Proofs.YtigdaaloagecgaaGreatDoor
open Go.RowKit

theorem flat_len {α : Type} (f : α → List UInt8) (c : Nat) : ∀ l : List α, (∀ x ∈ l, (f x).length ≤ c) → (l.flatMap f).length ≤ l.length * c
  | [], _ => by simp
  | x :: l, h => by
    have h1 := flat_len f c l (fun y hy => h y (.tail _ hy))
    have h2 := h x (.head _)
    simp only [List.flatMap_cons, List.length_append, List.length_cons, Nat.add_mul]
    omega
theorem scopes_i64 {g : Gr} (h : FitG g) : ∀ x ∈ scopesL g, I64 x.1 ∧ I64 x.2 := fun x hx => by
  obtain ⟨a, b⟩ := x
  have h1 := List.of_mem_zip hx
  exact ⟨i64_of (h.parents a h1.1), i64_of (h.bounds b (List.mem_of_mem_tail h1.2))⟩
theorem text_len {g : Gr} (h : OKG g) : (showText g).length ≤ 1000000 := by
  have F := h.fit
  have h1 := flat_len scopeT 100 (scopesL g) (fun x hx => scope_len (scopes_i64 F x hx).1 (scopes_i64 F x hx).2)
  have h2 := flat_len nodeT 6500 g.nodes (fun x hx => by
    obtain ⟨n1, n2, n3, n4⟩ := F.node x hx
    have h3 := flat_len insT 100 x.prog (fun y hy => ins_len (h.ns x hx y hy))
    have h4 := nodeLine_len (k := x.kind) (i64_of n2) (h.args x hx)
    unfold nodeT
    rw [List.length_append]
    omega)
  have h3 := flat_len edgeT 100 g.edges (fun x hx => by
    obtain ⟨e1, e2, e3⟩ := F.edge x hx
    exact edge_len (i64_of e1) (i64_of e2) (i64_of e3) _ (by split <;> simp [wKey, wPipe]))
  have h4 : (scopesL g).length ≤ 8 := by have := F.hi; simp only [scopesL, List.length_zip, List.length_tail]; omega
  have h5 := F.nodes
  have h6 := F.edges
  unfold showText
  simp only [List.length_append]
  omega
theorem i64_args {w : World} {B : Nat} {s : GS} {g : Gr} (h : GrAt w B s g) : (∀ x ∈ g.nodes, I64 x.arg) ∧ ∀ x ∈ g.nodes, ∀ y ∈ x.prog, I64 y.n := by
  have H : ∀ x ∈ g.nodes, ∃ c, Rep.node.R w B c x := fun x hx => by
    obtain ⟨k, hk, hx⟩ := List.getElem_of_mem hx
    obtain ⟨b, o, y, -, -, hy, -, hc⟩ := h.nodes.at_ (k := k) (by have := h.nodes.len; omega)
    rw [List.getElem?_eq_getElem hk, hx] at hy
    injection hy with hy
    subst hy
    exact ⟨_, hc⟩
  refine ⟨fun x hx => ?_, fun x hx y hy => ?_⟩
  · obtain ⟨c, -, -, -, -, -, h2, -⟩ := H x hx
    exact h2
  · obtain ⟨c, -, -, -, -, -, -, A, n, cap, -, -, -, hp⟩ := H x hx
    obtain ⟨k, hk, hy⟩ := List.getElem_of_mem hy
    obtain ⟨b, o, z, -, -, hz, -, -, -, -, hn⟩ := hp.at_ (k := k) (by have := hp.len; omega)
    rw [List.getElem?_eq_getElem hk, hy] at hz
    injection hz with hz
    subst hz
    exact hn

/-- a block that holds a graph's four slices -/
theorem box_cells {w : World} {k : Nat} {P B N E : Value} (h : w.heap[k]? = some (.cells #[P, B, N, E] 26 (0, 0))) : w.cell? ⟨k, 0, none⟩ = some P ∧ w.cell? ⟨k, 1, none⟩ = some B ∧ w.cell? ⟨k, 2, none⟩ = some N ∧ w.cell? ⟨k, 3, none⟩ = some E :=
  ⟨by rw [Lib.cell_of_heap h]; rfl, by rw [Lib.cell_of_heap h]; rfl, by rw [Lib.cell_of_heap h]; rfl, by rw [Lib.cell_of_heap h]; rfl⟩
/-- string(b), of a row of bytes -/
theorem conv_bytes {w : World} {k m cap B : Nat} {l : List UInt8} (h : Arr Rep.byte w B (some ⟨k, 0, none⟩) m l) : (convert 36 9 (.slice (some ⟨k, 0, none⟩) m cap)).run Tryz.prog w = .ok (.string (bs l)) w := by
  obtain rfl := h.len
  refine run_convert_bytes_back w _ _ 5 ⟨k, 0, none⟩ cap l (by kernel_rfl) (by kernel_rfl) (by kernel_rfl) fun j hj => ?_
  obtain ⟨b, o, x, e, -, hx, -, hc⟩ := h.at_ hj
  injection e with e
  injection e with e1 e2
  subst e1; subst e2
  rw [List.getElem?_eq_getElem hj] at hx
  injection hx with hx
  subst hx
  by_cases h0 : j = 0
  · subst h0
    simpa [Rep.byte, Addr.add] using hc
  · simpa [Rep.byte, Addr.add, h0] using hc

set_option maxHeartbeats 1600000 in
set_option maxRecDepth 100000 in
theorem textBack_any (s : GS) (g : Gr) (t : List UInt8) (w : World) (ht : t.length ≤ 9223372036854775807) (h : GrAt w w.heap.size s g) (L : Libs w) : Calls Tryz.prog 4 #[s.val, .string (bs t)] w fun e w' => e = .returned (.bool true) ∧ Below w.heap.size w w' := by
  have HI := Lib.hid (i64_args h)
  have HK : Hid (∀ W : World, Below w.heap.size w W → GrAt W W.heap.size s g) := fun W hb => (h.belows hb (Nat.le_refl _)).more hb.size
  have HL : Hid (∀ W : World, Below w.heap.size w W → Libs W) := fun W hb => L.below hb L.size
  clear h L
  obtain ⟨Pa, pn, pc, Ba, bn, bc, Na, nn, nc, Ea, en, ec⟩ := s
  unfold GS.val
  generalize hb : Obj.cells #[.slice Pa pn pc, .slice Ba bn bc, .slice Na nn nc, .slice Ea en ec] 26 = box
  have hb0 : Below w.heap.size w (w.alloc box) := (Below.refl _ _).alloc (Nat.le_refl _) _
  have HB0 := Lib.hid hb0
  subst hb
  have HA := Lib.hid (awake_any _ (HL.out _ HB0.out))
  clear hb0
  have hts := bs_size t
  go_enter Tryz.func4, Tryz.ntmps4
  go_wp2_with fail
  refine HA.out.mono ?_
  rintro r w1 ⟨rfl, hb1⟩
  have HB1 := Lib.hid (HB0.out.trans (hb1.mono (by simp)))
  have k0 : w1.heap[w.heap.size]? = some (.cells #[.slice Pa pn pc, .slice Ba bn bc, .slice Na nn nc, .slice Ea en ec] 26 (0, 0)) := (hb1.block _ (by simp)).trans (heap_alloc_new _ _ _)
  have c0 : w1.cell? ⟨w.heap.size, 0, none⟩ = some (.slice Pa pn pc) := by rw [Lib.cell_of_heap k0]; rfl
  have c1 : w1.cell? ⟨w.heap.size, 1, none⟩ = some (.slice Ba bn bc) := by rw [Lib.cell_of_heap k0]; rfl
  have c2 : w1.cell? ⟨w.heap.size, 2, none⟩ = some (.slice Na nn nc) := by rw [Lib.cell_of_heap k0]; rfl
  have c3 : w1.cell? ⟨w.heap.size, 3, none⟩ = some (.slice Ea en ec) := by rw [Lib.cell_of_heap k0]; rfl
  have HK0 := Lib.hid k0
  clear hb1 k0
  obtain ⟨T, hT, hTl⟩ : ∃ T : List UInt8, (bs t).extract 0 (min (t.length : Int) 6000).toNat = bs T ∧ T.length ≤ 6000 :=
    ⟨_, bs_of _, by simp; omega⟩
  have HS := Lib.hid (short_any _ g _ (HK.out _ HB1.out))
  unfold GS.val at HS
  go_wp2_with fail
  clear hT hts
  refine HS.out.mono ?_
  rintro r w2 ⟨rfl, hb2⟩
  have HK2 := Lib.hid ((hb2.block _ (heap_lt HK0.out)).trans HK0.out)
  have HB2 := Lib.hid (HB1.out.trans (hb2.mono HB1.out.size))
  clear hb2 c0 c1 c2 c3
  have c02 : w2.cell? ⟨w.heap.size, 0, none⟩ = some (.slice Pa pn pc) := by rw [Lib.cell_of_heap HK2.out]; rfl
  have c12 : w2.cell? ⟨w.heap.size, 1, none⟩ = some (.slice Ba bn bc) := by rw [Lib.cell_of_heap HK2.out]; rfl
  have c22 : w2.cell? ⟨w.heap.size, 2, none⟩ = some (.slice Na nn nc) := by rw [Lib.cell_of_heap HK2.out]; rfl
  have c32 : w2.cell? ⟨w.heap.size, 3, none⟩ = some (.slice Ea en ec) := by rw [Lib.cell_of_heap HK2.out]; rfl
  have HS3 := Lib.hid (show_any _ g _ (HK.out _ HB2.out) (HL.out _ HB2.out))
  unfold GS.val at HS3
  obtain ⟨S, E, hSE⟩ : ∃ S E, showSpec g = (S, E) := ⟨_, _, rfl⟩
  rw [hSE] at HS3
  have HSE := Lib.hid hSE
  clear hSE
  cases shortB g with
  | false =>
    go_wp2_with fail
    go_ret
    exact ⟨rfl, HB2.out⟩
  | true =>
    go_wp2_with fail
    refine HS3.out.mono ?_
    rintro r w3 ⟨rfl, hb3⟩
    have HK3 := Lib.hid ((hb3.block _ (heap_lt HK2.out)).trans HK2.out)
    have HB3 := Lib.hid (HB2.out.trans (hb3.mono HB2.out.size))
    clear hb3 c02 c12 c22 c32
    go_upto_if 38 with fail
    go_cut [1, 4] (fun v1 v4 wx => v1 = .string (bs T) ∧ v4 = .bool false ∧ Below w.heap.size w wx)
    case first =>
      by_cases hE : E = 0
      · obtain ⟨hS, hok⟩ : S = showText g ∧ Hid (OKG g) := by
          have h0 := HSE.out
          have hok := show_okG (g := g) (by rw [h0]; exact hE) HI.out.1 HI.out.2
          rw [okG_show hok] at h0
          exact ⟨(congrArg Prod.fst h0).symm, hok⟩
        subst hE
        have HP := Lib.hid (parse_any S w3 (HL.out _ HB3.out) (by rw [hS]; exact text_len hok.out))
        rw [show parseSpec S = (g, 0, 0) by rw [hS]; exact parse_show hok.out] at HP
        clear hS
        go_wp2_with fail
        refine HP.out.mono ?_
        rintro r w4 ⟨s1, rfl, hg1, hb4⟩
        have HB4 := Lib.hid (HB3.out.trans (hb4.mono HB3.out.size))
        have HK4 := Lib.hid ((hb4.block _ (heap_lt HK3.out)).trans HK3.out)
        have HF := Lib.hid (fits_of hok.out.fit)
        have HPG : Hid (∀ W : World, Below w4.heap.size w4 W → GrAt W W.heap.size s1 g) := fun W hb => (hg1.belows hb (Nat.le_refl _)).more hb.size
        clear hb4 hg1 hok HP
        obtain ⟨Pb, pm, pd, Bb, bm, bd, Nb, nm, nd, Eb, em, ed⟩ := s1
        have hlt4 := heap_lt HK4.out
        have hbb : Below w4.heap.size w4 (w4.alloc (.cells #[.slice Pb pm pd, .slice Bb bm bd, .slice Nb nm nd, .slice Eb em ed] 26)) := (Below.refl _ _).alloc (Nat.le_refl _) _
        have HA1 := Lib.hid (put_any _ g _ (HK.out _ (HB4.out.trans (hbb.mono HB4.out.size))))
        have HBB := Lib.hid hbb
        unfold GS.val at HA1 ⊢
        obtain ⟨c0, c1, c2, c3⟩ := box_cells ((hbb.block _ hlt4).trans HK4.out)
        clear hbb
        go_wp2_with fail
        refine HA1.out.mono ?_
        rintro r w5 ⟨hb5, -, hput⟩
        obtain ⟨ga, ma, capa, rfl, -, -, harra⟩ := hput HF.out
        have HB5 := Lib.hid (HBB.out.trans (hb5.mono HBB.out.size))
        have HK5 := Lib.hid ((HB5.out.block _ (heap_lt HK4.out)).trans HK4.out)
        have HH5 := Lib.hid ((hb5.block _ (by simp)).trans (heap_alloc_new w4 _ _))
        have HRA := Lib.hid harra
        clear hput hb5 harra c0 c1 c2 c3 HA1
        obtain ⟨c0, c1, c2, c3⟩ := box_cells HH5.out
        have HA2 := Lib.hid (put_any _ g _ (HPG.out _ HB5.out))
        unfold GS.val at HA2
        go_wp2_with fail
        refine HA2.out.mono ?_
        rintro r w6 ⟨hb6, -, hput⟩
        obtain ⟨gb, mb, capb, rfl, -, -, harrb⟩ := hput HF.out
        have HB6 := Lib.hid (HB5.out.trans (hb6.mono HB5.out.size))
        have HK6 := Lib.hid ((hb6.block _ (heap_lt HK5.out)).trans HK5.out)
        have HH6 := Lib.hid ((hb6.block _ (heap_lt HH5.out)).trans HH5.out)
        have HRA6 := Lib.hid ((HRA.out.below hb6).more hb6.size)
        have HRB := Lib.hid harrb
        clear hput hb6 harrb c0 c1 c2 c3 HA2
        obtain ⟨c0, c1, c2, c3⟩ := box_cells HK6.out
        obtain ⟨d0, d1, d2, d3⟩ := box_cells HH6.out
        have HA3 := Lib.hid (refSame_any _ _ g w6 (HK.out _ (HB4.out.trans (HB6.out.mono HB4.out.size))) (HPG.out _ HB6.out))
        unfold GS.val at HA3
        go_wp2_with fail
        refine HA3.out.mono ?_
        rintro r w7 ⟨rfl, hb7⟩
        have HB7 := Lib.hid (HB4.out.trans ((HB6.out.trans (hb7.mono HB6.out.size)).mono HB4.out.size))
        have v1 := conv_bytes (cap := capa) (HRA6.out.below hb7)
        have v2 := conv_bytes (cap := capb) (HRB.out.below hb7)
        clear hb7 c0 c1 c2 c3 d0 d1 d2 d3 HA3
        generalize putBytes g = Q at v1 v2
        go_wp2_with fail
        go_meet
        exact ⟨rfl, rfl, HB7.out⟩
      · have hEb : (E == 0) = false := by simp [hE]
        go_wp2_with fail
        go_meet
        exact ⟨rfl, rfl, HB3.out⟩
    case rest =>
      obtain ⟨rfl, rfl, hbc⟩ := hcut
      have HBC := Lib.hid hbc
      have HP := Lib.hid (parse_any T wc (HL.out _ hbc) (by omega))
      clear hbc HSE HI
      have hpe : ∃ p pe pl, parseSpec T = (p, pe, pl) := ⟨_, _, _, rfl⟩
      obtain ⟨p, pe, pl, hp⟩ := hpe
      rw [hp] at HP
      have hPP := Lib.hid hp
      clear hp
      go_wp2_with fail
      refine HP.out.mono ?_
      rintro r w4 ⟨s1, rfl, hg1, hb4⟩
      have HB4 := Lib.hid (HBC.out.trans (hb4.mono HBC.out.size))
      have HPG : Hid (∀ W : World, Below w4.heap.size w4 W → GrAt W W.heap.size s1 p) := fun W hb => (hg1.belows hb (Nat.le_refl _)).more hb.size
      clear hb4 HP HK HA HS HS3 HBC
      obtain ⟨Pb, pm, pd, Bb, bm, bd, Nb, nm, nd, Eb, em, ed⟩ := s1
      have hpm : p.parent.length = pm := hg1.parent.len
      clear hg1
      have hbb : Below w4.heap.size w4 (w4.alloc (.cells #[.slice Pb pm pd, .slice Bb bm bd, .slice Nb nm nd, .slice Eb em ed] 26)) := (Below.refl _ _).alloc (Nat.le_refl _) _
      have HBB := Lib.hid hbb
      clear hbb
      unfold GS.val at ⊢
      by_cases hpe : pe = 0
      · subst hpe
        have hok : Hid (OKG p) := by
          show OKG p
          have h0 := parseGo_ok (linesOf T) 0 startG startG_ok
          have h1 : parseGo 0 (linesOf T) startG = (p, 0, pl) := hPP.out
          rw [h1] at h0
          exact h0 rfl
        have HSH := Lib.hid (show_any _ p _ (HPG.out _ HBB.out) (HL.out _ (HB4.out.trans (HBB.out.mono HB4.out.size))))
        rw [okG_show hok.out] at HSH
        unfold GS.val at HSH
        go_wp2_with fail
        refine HSH.out.mono ?_
        rintro r w5 ⟨rfl, hb5⟩
        have HB5 := Lib.hid (HBB.out.trans (hb5.mono HBB.out.size))
        have HK5 := Lib.hid ((hb5.block _ (by simp)).trans (heap_alloc_new w4 _ _))
        clear hb5 HSH
        obtain ⟨S2, hS2⟩ : ∃ S2, showText p = S2 := ⟨_, rfl⟩
        have HP2 := Lib.hid (parse_any S2 w5 (HL.out _ (HB4.out.trans (HB5.out.mono HB4.out.size))) (by rw [← hS2]; exact text_len hok.out))
        rw [show parseSpec S2 = (p, 0, 0) by rw [← hS2]; exact parse_show hok.out] at HP2
        go_wp2_with fail
        refine HP2.out.mono ?_
        rintro r w6 ⟨s2, rfl, hg2, hb6⟩
        have HB6 := Lib.hid (HB5.out.trans (hb6.mono HB5.out.size))
        have HK6 := Lib.hid ((hb6.block _ (heap_lt HK5.out)).trans HK5.out)
        have HPG2 : Hid (∀ W : World, Below w6.heap.size w6 W → GrAt W W.heap.size s2 p) := fun W hb => (hg2.belows hb (Nat.le_refl _)).more hb.size
        clear hb6 hg2 HP2 hS2
        obtain ⟨Pc, qm, qd, Bc, cm, cd, Nc, om, od, Ec, fm, fd⟩ := s2
        have hlt6 := heap_lt HK6.out
        have hbb : Below w6.heap.size w6 (w6.alloc (.cells #[.slice Pc qm qd, .slice Bc cm cd, .slice Nc om od, .slice Ec fm fd] 26)) := (Below.refl _ _).alloc (Nat.le_refl _) _
        have HA3 := Lib.hid (refSame_any _ _ p _ (HPG.out _ (HB6.out.trans (hbb.mono HB6.out.size))) (HPG2.out _ hbb))
        unfold GS.val at HA3 ⊢
        obtain ⟨c0, c1, c2, c3⟩ := box_cells ((hbb.block _ hlt6).trans HK6.out)
        have HBB6 := Lib.hid hbb
        clear hbb
        go_wp2_with fail
        refine HA3.out.mono ?_
        rintro r w7 ⟨rfl, hb7⟩
        have HB7 := Lib.hid (HB4.out.trans ((HB6.out.trans ((HBB6.out.trans (hb7.mono HBB6.out.size)).mono HB6.out.size)).mono HB4.out.size))
        clear hb7 HA3 c0 c1 c2 c3
        go_wp2_with fail
        go_ret
        exact ⟨rfl, HB7.out⟩
      · have hpb : (pe != 0) = true := by simp [hpe]
        have hno : p = noG := by
          have h0 := parseGo_no (linesOf T) 0 startG
          have h1 : parseGo 0 (linesOf T) startG = (p, pe, pl) := hPP.out
          rw [h1] at h0
          exact h0 hpe
        subst hno
        obtain rfl : 0 = pm := hpm
        go_wp2_with fail
        go_ret
        exact ⟨rfl, HB4.out.trans (HBB.out.mono HB4.out.size)⟩

end Go.Proofs.YtigdaaloagecgaaGreatDoor
