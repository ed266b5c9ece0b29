/-
  backwashref08.Same (of two graphs that are one), ints, backwashref07.Same: their walks. No condition.
-/
import Derived.Test.YtigdaaloagecgaaGreatDoorShow
import Derived.Test.YtigdaaloagecgaaGreatDoorReg
namespace Go.Proofs.YtigdaaloagecgaaGreatDoor
open Go.RowKit

theorem below_drawn {B : Nat} {a w : World} (h : Below B a w) (q : Nat) : Below B a (w.drewN q) := ⟨h.os, h.tape, h.output, h.size, h.block⟩

set_option maxHeartbeats 1600000 in
set_option maxRecDepth 100000 in
theorem refInts_any (A A' : Option Addr) (n c c' B : Nat) (l : List Int) (w : World) (h : Arr Rep.int w B A n l) (h' : Arr Rep.int w B A' n l) (hn : n ≤ maxLen) (hB : B ≤ w.heap.size) :
    Calls Tryz.prog 30 #[.slice A n c, .slice A' n c'] w fun e w' => e = .returned (.bool true) ∧ Below w.heap.size w w' := by
  unfold maxLen at hn
  go_enter Tryz.func30, Tryz.ntmps30
  go_wp2
  go_loopw [5] (fun i wr => ∃ k : Nat, k ≤ n ∧ i = .int .i64 k ∧ Below w.heap.size w wr) (fun i _ => n - (intOf i).toNat)
  case atStart => exact ⟨0, by omega, rfl, Below.refl _ _⟩
  case round =>
    obtain ⟨k, hk, rfl, hbl⟩ := hrel
    by_cases hlt : k < n
    · obtain ⟨b, o, x, rfl, hb, hx, -, hc, -⟩ := (h.belows hbl hB).at_ hlt
      obtain ⟨b', o', x', rfl, hb', hx', -, hc', -⟩ := (h'.belows hbl hB).at_ hlt
      rw [hx] at hx'
      injection hx' with hx'
      subst hx'
      simp only [Rep.int, Nat.mul_one, Nat.add_zero] at hc hc'
      have HB := Lib.hid hbl
      clear h h' hx hbl
      have g0 : (k : Int) < (n : Int) := by omega
      go_wp2_with fail
      go_quiet (fail)
      go_wp2_with fail
      go_roundw
      case rel => exact ⟨k + 1, by omega, by go_num, below_drawn HB.out _⟩
      case measure => simp [intOf]; omega
    · go_wp2
      go_ret
      exact ⟨rfl, hbl⟩

set_option maxHeartbeats 1600000 in
set_option maxRecDepth 100000 in
theorem ref07Same_any (A A' : Option Addr) (n c c' B : Nat) (l : List Ins) (w : World) (h : Arr Rep.ins w B A n l) (h' : Arr Rep.ins w B A' n l) (hn : n ≤ maxLen) (hB : B ≤ w.heap.size) :
    Calls Tryz.prog 31 #[.slice A n c, .slice A' n c'] w fun e w' => e = .returned (.bool true) ∧ Below w.heap.size w w' := by
  unfold maxLen at hn
  go_enter Tryz.func31, Tryz.ntmps31
  go_wp2
  go_loopw [5] (fun i wr => ∃ k : Nat, k ≤ n ∧ i = .int .i64 k ∧ Below w.heap.size w wr) (fun i _ => n - (intOf i).toNat)
  case atStart => exact ⟨0, by omega, rfl, Below.refl _ _⟩
  case round =>
    obtain ⟨k, hk, rfl, hbl⟩ := hrel
    by_cases hlt : k < n
    · obtain ⟨b, o, x, rfl, hb, hx, -, hc⟩ := (h.belows hbl hB).at_ hlt
      obtain ⟨b', o', x', rfl, hb', hx', -, hc'⟩ := (h'.belows hbl hB).at_ hlt
      rw [hx] at hx'
      injection hx' with hx'
      subst hx'
      obtain ⟨c0, c1, -, -⟩ := hc
      obtain ⟨d0, d1, -, -⟩ := hc'
      simp only [Rep.ins, Nat.add_zero] at c0 c1 d0 d1
      have HB := Lib.hid hbl
      clear h h' hx hbl
      have g0 : (k : Int) < (n : Int) := by omega
      go_wp2_with fail
      go_quiet (fail)
      go_wp2_with fail
      go_roundw
      case rel => exact ⟨k + 1, by omega, by go_num, below_drawn HB.out _⟩
      case measure => simp [intOf]; omega
    · go_wp2
      go_ret
      exact ⟨rfl, hbl⟩

theorem below2 (w : World) (o o' : Obj) : Below w.heap.size w ((w.alloc o).alloc o').drew := (((Below.refl _ _).alloc (Nat.le_refl _) _).alloc (by simp) _).drew
/-- both graphs' node i, and the slices in which they lie -/
def NodesAt (q b o b' o' i n c c' : Nat) (x : Nd) (A A' : Option Addr) (m cap cap' : Nat) (W : World) : Prop :=
  W.cell? ⟨q, 2, none⟩ = some (.slice (some ⟨b, o, none⟩) n c) ∧ W.cell? ⟨q + 1, 2, none⟩ = some (.slice (some ⟨b', o', none⟩) n c') ∧
  (W.cell? ⟨b, o + i * 4, none⟩ = some (.int .i64 x.kind) ∧ W.cell? ⟨b, o + i * 4 + 1, none⟩ = some (.int .i64 x.scope) ∧ W.cell? ⟨b, o + i * 4 + 2, none⟩ = some (.int .i64 x.arg) ∧ W.cell? ⟨b, o + i * 4 + 3, none⟩ = some (.slice A m cap)) ∧
  W.cell? ⟨b', o' + i * 4, none⟩ = some (.int .i64 x.kind) ∧ W.cell? ⟨b', o' + i * 4 + 1, none⟩ = some (.int .i64 x.scope) ∧ W.cell? ⟨b', o' + i * 4 + 2, none⟩ = some (.int .i64 x.arg) ∧ W.cell? ⟨b', o' + i * 4 + 3, none⟩ = some (.slice A' m cap')
theorem NodesAt.keep {q b o b' o' i n c c' m cap cap' B : Nat} {x : Nd} {A A' : Option Addr} {w w' : World} (h : NodesAt q b o b' o' i n c c' x A A' m cap cap' w) (hb : Below B w w') (h1 : q + 1 < B) (h2 : b < B) (h3 : b' < B) : NodesAt q b o b' o' i n c c' x A A' m cap cap' w' := by
  have H : ∀ p : Addr, p.block < B → w'.cell? p = w.cell? p := fun p hp => hb.cell hp
  obtain ⟨g0, g1, ⟨g2, g3, g4, g5⟩, g6, g7, g8, g9⟩ := h
  exact ⟨(H _ (by show q < B; omega)).trans g0, (H _ h1).trans g1, ⟨(H _ h2).trans g2, (H _ h2).trans g3, (H _ h2).trans g4, (H _ h2).trans g5⟩, (H _ h3).trans g6, (H _ h3).trans g7, (H _ h3).trans g8, (H _ h3).trans g9⟩

set_option maxHeartbeats 3200000 in
set_option maxRecDepth 100000 in
theorem refSame_any (s s' : GS) (g : Gr) (w : World) (h : GrAt w w.heap.size s g) (h' : GrAt w w.heap.size s' g) :
    Calls Tryz.prog 11 #[s.val, s'.val] w fun e w' => e = .returned (.bool true) ∧ Below w.heap.size w w' := by
  obtain ⟨Pa, pn, pc, Ba, bn, bc, Na, nn, nc, Ea, en, ec⟩ := s
  obtain ⟨Pa', pn', pc', Ba', bn', bc', Na', nn', nc', Ea', en', ec'⟩ := s'
  obtain ⟨h1, h2, h3, h4, m1, m2, m3, m4, n1, n2, n3, n4⟩ := h
  obtain ⟨h1', h2', h3', h4', m1', m2', m3', m4', n1', n2', n3', n4'⟩ := h'
  simp only at h1 h2 h3 h4 m1 m2 m3 m4 n1 n2 n3 n4 h1' h2' h3' h4' m1' m2' m3' m4' n1' n2' n3' n4'
  obtain rfl : pn' = pn := h1'.len.symm.trans h1.len
  obtain rfl : bn' = bn := h2'.len.symm.trans h2.len
  obtain rfl : nn' = nn := h3'.len.symm.trans h3.len
  obtain rfl : en' = en := h4'.len.symm.trans h4.len
  have H := Lib.hid (And.intro h1 (And.intro h2 (And.intro h3 h4)))
  have H' := Lib.hid (And.intro h1' (And.intro h2' (And.intro h3' h4')))
  have M := Lib.hid (And.intro (Nat.le_trans m1 n1) (And.intro (Nat.le_trans m2 n2) (And.intro (Nat.le_trans m3 n3) (Nat.le_trans m4 n4))))
  clear h1 h2 h3 h4 m1 m2 m3 m4 n1 n2 n3 n4 h1' h2' h3' h4' m1' m2' m3' m4' n1' n2' n3' n4'
  unfold GS.val
  go_enter Tryz.func11, Tryz.ntmps11
  generalize hW : ((w.alloc (.cells #[.slice Pa pn' pc, .slice Ba bn' bc, .slice Na nn' nc, .slice Ea en' ec] 26)).alloc (.cells #[.slice Pa' pn' pc', .slice Ba' bn' bc', .slice Na' nn' nc', .slice Ea' en' ec'] 26)) = W
  have hb0 : Below w.heap.size w W := by rw [← hW]; exact ((Below.refl _ _).alloc (Nat.le_refl _) _).alloc (by simp) _
  have hz : W.heap.size = w.heap.size + 2 := by rw [← hW]; simp
  have hcA : ∀ j : Nat, W.cell? ⟨w.heap.size, j, none⟩ = #[Value.slice Pa pn' pc, .slice Ba bn' bc, .slice Na nn' nc, .slice Ea en' ec][j]? := fun j => by
    rw [← hW]; exact (World.cell?_of_block (((Below.refl _ _).alloc (Nat.le_refl _) _).block _ (by simp))).trans (World.cell?_alloc_new (w := w) _ _ j)
  have hcB : ∀ j : Nat, W.cell? ⟨w.heap.size + 1, j, none⟩ = #[Value.slice Pa' pn' pc', .slice Ba' bn' bc', .slice Na' nn' nc', .slice Ea' en' ec'][j]? := fun j => by
    rw [← hW]
    have h0 := World.cell?_alloc_new (w := w.alloc (.cells #[.slice Pa pn' pc, .slice Ba bn' bc, .slice Na nn' nc, .slice Ea en' ec] 26)) #[Value.slice Pa' pn' pc', .slice Ba' bn' bc', .slice Na' nn' nc', .slice Ea' en' ec'] 26 j
    rw [show (w.alloc (.cells #[.slice Pa pn' pc, .slice Ba bn' bc, .slice Na nn' nc, .slice Ea en' ec] 26)).heap.size = w.heap.size + 1 by simp] at h0
    exact h0
  have HC := Lib.hid (And.intro hcA hcB)
  have HZ := Lib.hid hb0
  have a0 : W.cell? ⟨w.heap.size, 0, none⟩ = some (.slice Pa pn' pc) := hcA 0
  have a0' : W.cell? ⟨w.heap.size + 1, 0, none⟩ = some (.slice Pa' pn' pc') := hcB 0
  clear hcA hcB hb0
  go_wp2_with fail
  clear hW a0 a0'
  refine (refInts_any Pa Pa' pn' pc pc' w.heap.size g.parent W (H.out.1.below HZ.out) (H'.out.1.below HZ.out) M.out.1 HZ.out.size).mono ?_
  rintro r w1 ⟨rfl, hb1⟩
  have b1 : w1.cell? ⟨w.heap.size, 1, none⟩ = some (.slice Ba bn' bc) := (hb1.cell (by show _ < _; first | (rw [hz]; simp; done) | (rw [hz]; simp only []; omega))).trans (HC.out.1 1)
  have b1' : w1.cell? ⟨w.heap.size + 1, 1, none⟩ = some (.slice Ba' bn' bc') := (hb1.cell (by show _ < _; first | (rw [hz]; simp; done) | (rw [hz]; simp only []; omega))).trans (HC.out.2 1)
  have HB1 := Lib.hid hb1
  have z1 := hb1.size
  clear hb1
  go_wp2_with fail
  refine (refInts_any Ba Ba' bn' bc bc' w.heap.size g.bound w1 (H.out.2.1.below (HZ.out.trans (HB1.out.mono HZ.out.size))) (H'.out.2.1.below (HZ.out.trans (HB1.out.mono HZ.out.size))) M.out.2.1 (by omega)).mono ?_
  rintro r w2 ⟨rfl, hb2⟩
  have hb2' : Below W.heap.size W w2 := HB1.out.trans (hb2.mono z1)
  have c2 : w2.cell? ⟨w.heap.size, 2, none⟩ = some (.slice Na nn' nc) := (hb2'.cell (by show _ < _; first | (rw [hz]; simp; done) | (rw [hz]; simp only []; omega))).trans (HC.out.1 2)
  have c2' : w2.cell? ⟨w.heap.size + 1, 2, none⟩ = some (.slice Na' nn' nc') := (hb2'.cell (by show _ < _; first | (rw [hz]; simp; done) | (rw [hz]; simp only []; omega))).trans (HC.out.2 2)
  have c3 : w2.cell? ⟨w.heap.size, 3, none⟩ = some (.slice Ea en' ec) := (hb2'.cell (by show _ < _; first | (rw [hz]; simp; done) | (rw [hz]; simp only []; omega))).trans (HC.out.1 3)
  have c3' : w2.cell? ⟨w.heap.size + 1, 3, none⟩ = some (.slice Ea' en' ec') := (hb2'.cell (by show _ < _; first | (rw [hz]; simp; done) | (rw [hz]; simp only []; omega))).trans (HC.out.2 3)
  have HB2 := Lib.hid hb2'
  clear hb2 hb2' b1 b1' HB1
  go_wp2_with fail
  clear c2 c2' c3 c3'
  have hNN := M.out.2.2.1
  have hEE := M.out.2.2.2
  unfold maxLen at hNN hEE
  go_loopw [5] (fun i wr => ∃ k : Nat, k ≤ nn' ∧ i = .int .i64 k ∧ Below W.heap.size W wr) (fun i _ => nn' - (intOf i).toNat)
  case atStart => exact ⟨0, by omega, rfl, HB2.out⟩
  case round =>
    clear z1
    obtain ⟨k, hk, rfl, hbl⟩ := hrel
    have c2 : wr.cell? ⟨w.heap.size, 2, none⟩ = some (.slice Na nn' nc) := (hbl.cell (by show _ < _; rw [hz]; simp)).trans (HC.out.1 2)
    have c2' : wr.cell? ⟨w.heap.size + 1, 2, none⟩ = some (.slice Na' nn' nc') := (hbl.cell (by show _ < _; rw [hz]; simp)).trans (HC.out.2 2)
    have hsz := hbl.size
    have hwr : Below w.heap.size w wr := HZ.out.trans (hbl.mono HZ.out.size)
    by_cases hlt : k < nn'
    · obtain ⟨b, o, x, rfl, hb, hx, -, k0, k1, k2, -, -, -, A, n, cap, k3, kn, km, hp⟩ := (H.out.2.2.1.below hwr).at_ hlt
      obtain ⟨b', o', x', rfl, hb', hx', -, k0', k1', k2', -, -, -, A', n', cap', k3', kn', km', hp'⟩ := (H'.out.2.2.1.below hwr).at_ hlt
      rw [hx] at hx'
      injection hx' with hx'
      subst hx'
      obtain rfl : n' = n := hp'.len.symm.trans hp.len
      simp only [Rep.node, Nat.add_zero] at k0 k1 k2 k3 k0' k1' k2' k3'
      have HP := Lib.hid (And.intro hp hp')
      have HB := Lib.hid (And.intro hbl hwr)
      have HM : Hid (n' ≤ maxLen) := Lib.hid (by omega)
      clear hx hp hp' hbl hwr kn km kn' km'
      go_upto_region 6 with fail
      have hS : NodesAt w.heap.size b o b' o' k nn' nc nc' x A A' n' cap cap' wr := ⟨c2, c2', ⟨k0, k1, k2, k3⟩, k0', k1', k2', k3'⟩
      have hKeep : Hid (∀ {W : World}, Below wr.heap.size wr W → NodesAt w.heap.size b o b' o' k nn' nc nc' x A A' n' cap cap' W) := fun h => hS.keep h (by omega) (by omega) (by omega)
      clear k0 k1 k2 k3 k0' k1' k2' k3' c2 c2'
      refine wp_region_N (fun k => decide (k < 13)) (NodesAt w.heap.size b o b' o' k nn' nc nc' x A A' n' cap cap') [0, 2, 5, 7] [1, 3, 4, 6, 8, 9] 4 (by kernel_rfl) (by kernel_rfl) rfl (fun d _ _ _ _ h => by cases d <;> exact h) (by kernel_rfl) (by kernel_rfl) hS ?_
      clear hS
      simp only [List.filterMap_cons, List.getElem?_toArray, List.getElem?_cons_succ, List.getElem?_cons_zero, List.filterMap_nil]
      repeat (quiet_step (fail))
      refine wpQuiet_nil ?_
      refine C_step (v := ?v1) rfl ?h1 ?_
      case h1 => rintro W ⟨g0, g1, ⟨g2, g3, g4, g5⟩, g6, g7, g8, g9⟩; go_simp; rfl
      refine C_step (v := ?v2) rfl ?h2 ?_
      case h2 => rintro W ⟨g0, g1, ⟨g2, g3, g4, g5⟩, g6, g7, g8, g9⟩; go_simp; rfl
      refine C_step (v := ?v3) rfl ?h3 ?_
      case h3 => rintro W ⟨g0, g1, ⟨g2, g3, g4, g5⟩, g6, g7, g8, g9⟩; go_simp; rfl
      refine C_step (v := ?v4) rfl ?h4 ?_
      case h4 => rintro W ⟨g0, g1, ⟨g2, g3, g4, g5⟩, g6, g7, g8, g9⟩; go_simp; rfl
      refine C_step (v := ?v5) rfl ?h5 ?_
      case h5 => rintro W ⟨g0, g1, ⟨g2, g3, g4, g5⟩, g6, g7, g8, g9⟩; go_simp; rfl
      refine C_step (v := ?v6) rfl ?h6 ?_
      case h6 => rintro W ⟨g0, g1, ⟨g2, g3, g4, g5⟩, g6, g7, g8, g9⟩; go_simp; rfl
      refine wpQuiet_nil ?_
      refine N_two (k := 10) (k' := 11) (by kernel_rfl) rfl rfl rfl rfl ?_ ?_
      · go_simp
        refine ⟨Lib.hid (fun _ => hKeep.out ((Below.refl _ _).alloc (Nat.le_refl _) _).drew), ?_⟩
        refine N_one (k := 11) (by kernel_rfl) rfl rfl ?_
        go_simp
        refine ⟨Lib.hid (fun _ => hKeep.out (((Below.refl _ _).alloc (Nat.le_refl _) _).alloc (by simp) _).drew), ?_⟩
        refine N_one (k := 12) (by kernel_rfl) rfl rfl ?_
        go_simp
        refine ⟨Lib.hid (fun _ => hKeep.out (((Below.refl _ _).alloc (Nat.le_refl _) _).alloc (by simp) _).drew), ?_⟩
        refine N_tail 13 1 (by rfl) (fun j hj => by simp; omega) (by kernel_rfl) ?_
        simp only [List.drop_succ_cons, List.drop_zero]
        go_wp2_with fail
        refine (ref07Same_any A A' n' cap cap' w.heap.size x.prog _ (HP.out.1.belows (below2 wr _ _) (by omega)) (HP.out.2.belows (below2 wr _ _) (by omega)) HM.out (by simp; omega)).mono ?_
        rintro r w3 ⟨rfl, hb3⟩
        have hb4 : Below W.heap.size W w3 := HB.out.1.trans (((below2 wr _ _).trans (hb3.mono (below2 wr _ _).size)).mono hsz)
        have HB3 := Lib.hid hb4
        clear hb3 hb4
        go_wp2_with fail
        go_roundw
        case rel => exact ⟨k + 1, by omega, by go_num, HB3.out⟩
        case measure => simp [intOf]; omega
      · go_simp
        refine ⟨Lib.hid (fun _ => hKeep.out ((Below.refl _ _).alloc (Nat.le_refl _) _).drew), ?_⟩
        refine N_one (k := 10) (by kernel_rfl) rfl rfl ?_
        go_simp
        refine ⟨Lib.hid (fun _ => hKeep.out (((Below.refl _ _).alloc (Nat.le_refl _) _).alloc (by simp) _).drew), ?_⟩
        refine N_one (k := 12) (by kernel_rfl) rfl rfl ?_
        go_simp
        refine ⟨Lib.hid (fun _ => hKeep.out (((Below.refl _ _).alloc (Nat.le_refl _) _).alloc (by simp) _).drew), ?_⟩
        refine N_tail 13 1 (by rfl) (fun j hj => by simp; omega) (by kernel_rfl) ?_
        simp only [List.drop_succ_cons, List.drop_zero]
        go_wp2_with fail
        refine (ref07Same_any A A' n' cap cap' w.heap.size x.prog _ (HP.out.1.belows (below2 wr _ _) (by omega)) (HP.out.2.belows (below2 wr _ _) (by omega)) HM.out (by simp; omega)).mono ?_
        rintro r w3 ⟨rfl, hb3⟩
        have hb4 : Below W.heap.size W w3 := HB.out.1.trans (((below2 wr _ _).trans (hb3.mono (below2 wr _ _).size)).mono hsz)
        have HB3 := Lib.hid hb4
        clear hb3 hb4
        go_wp2_with fail
        go_roundw
        case rel => exact ⟨k + 1, by omega, by go_num, HB3.out⟩
        case measure => simp [intOf]; omega
    · go_wp2_with fail
      have e3 : wr.cell? ⟨w.heap.size, 3, none⟩ = some (.slice Ea en' ec) := (hbl.cell (by show _ < _; rw [hz]; simp)).trans (HC.out.1 3)
      have HB := Lib.hid hbl
      clear c2 c2' hbl hwr hsz e3
      go_loopw [8] (fun i wr => ∃ k : Nat, k ≤ en' ∧ i = .int .i64 k ∧ Below W.heap.size W wr) (fun i _ => en' - (intOf i).toNat)
      case atStart => exact ⟨0, by omega, rfl, HB.out⟩
      case round =>
        clear hk hlt
        obtain ⟨k, hk, rfl, hbl⟩ := hrel
        have c3 : wr.cell? ⟨w.heap.size, 3, none⟩ = some (.slice Ea en' ec) := (hbl.cell (by show _ < _; rw [hz]; simp)).trans (HC.out.1 3)
        have c3' : wr.cell? ⟨w.heap.size + 1, 3, none⟩ = some (.slice Ea' en' ec') := (hbl.cell (by show _ < _; rw [hz]; simp)).trans (HC.out.2 3)
        have hwr : Below w.heap.size w wr := HZ.out.trans (hbl.mono HZ.out.size)
        by_cases hlt : k < en'
        · obtain ⟨b, o, x, rfl, hb, hx, -, k0, k1, k2, k3, -⟩ := (H.out.2.2.2.below hwr).at_ hlt
          obtain ⟨b', o', x', rfl, hb', hx', -, k0', k1', k2', k3', -⟩ := (H'.out.2.2.2.below hwr).at_ hlt
          rw [hx] at hx'
          injection hx' with hx'
          subst hx'
          simp only [Rep.edge, Nat.add_zero] at k0 k1 k2 k3 k0' k1' k2' k3'
          have HE := Lib.hid hbl
          have g0 : (k : Int) < (en' : Int) := by omega
          clear hx hbl hwr
          go_wp2_with fail
          go_quiet (fail)
          go_wp2_with fail
          go_roundw
          case rel => exact ⟨k + 1, by omega, by go_num, below_drawn HE.out _⟩
          case measure => simp [intOf]; omega
        · go_wp2_with fail
          go_ret
          exact ⟨rfl, hwr⟩

end Go.Proofs.YtigdaaloagecgaaGreatDoor
