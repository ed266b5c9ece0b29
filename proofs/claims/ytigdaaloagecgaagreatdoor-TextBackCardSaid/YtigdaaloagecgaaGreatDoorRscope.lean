/-
  text.reader's scope: its walk. Condition: the library's variables hold what its text lays.
-/
import Derived.Test.YtigdaaloagecgaaGreatDoorRd3
namespace Go.Proofs.YtigdaaloagecgaaGreatDoor
open Go.RowKit

section
variable {B b : Nat} {p q r s : Value} {v0 : Value × Value × Value × Value} {vs : List Value} {g : Gr} {e e0 : Int} {w w5 W W1 W1' W2 : World}
theorem scope_rb1 (h : Rd B b (p, q, r, s) vs g e w5) (hW : Below w5.heap.size w5 W) (hg1 : W.grownBy W1 p.ownBlock) : RB b (p, q, r, s) e W1 := by
  have h' := h.later hW
  exact (hg1.block b (heap_lt h'.rb) (fun he => own_rb h'.parent h'.rb (by decide) he.symm)).trans h'.rb
theorem scope_q1 (h : Rd B b (p, q, r, s) vs g e w5) (hW : Below w5.heap.size w5 W) (hg1 : W.grownBy W1 p.ownBlock) (hb1 : Below W1.heap.size W1 W1') : W1'.ownsRow B 3 1 q g.bound.length (intCellsL g.bound) := by
  have h' := h.later hW
  have hq1 : W1.ownsRow B 3 1 q g.bound.length (intCellsL g.bound) := by
    refine h'.bound.kept hg1 ?_
    rcases h'.apart with h1 | h1
    · cases hq : q.ownBlock with
      | none => exact .inl rfl
      | some k => exact .inr (by show _ ≠ p.ownBlock; rw [show p.ownBlock = none from h1]; simp)
    · exact .inr (fun e2 => h1 e2.symm)
  exact hq1.kept (grown_of_below hb1 (none : Option Nat)) (by cases q.ownBlock <;> simp)
theorem scope_rb2 (h : Rd B b (p, q, r, s) vs g e w5) (hW : Below w5.heap.size w5 W) (hg1 : W.grownBy W1 p.ownBlock) (hb1 : Below W1.heap.size W1 W1') (hg2 : W1'.grownBy W2 q.ownBlock) : RB b (p, q, r, s) e W2 := by
  have h1 := (scope_rb1 h hW hg1).later hb1
  exact (hg2.block b (heap_lt h1) (fun he => own_rb (scope_q1 h hW hg1 hb1) h1 (by decide) he.symm)).trans h1
theorem scope_fin (h : Rd B b (p, q, r, s) vs g e w5) (hg : w.grownBy w5 (some b)) (hr : RB b v0 e0 w) (hb : B ≤ b) (x0 x1 : Int) {g1 c1 g2 c2 np nb : Nat} (hnp : g.parent.length = np) (hnb : g.bound.length = nb)
    (hW : Below w5.heap.size w5 W) (ho1 : W1.ownsRow B 3 1 (.slice (some ⟨g1, 0, none⟩) (np + 1) c1) (np + 1) (intCellsL g.parent ++ [.int .i64 x0])) (hg1 : W.grownBy W1 p.ownBlock) (hat1 : p.ownBlock = some g1 ∨ g1 = W.heap.size)
    (hb1 : Below W1.heap.size W1 W1') (ho2 : W2.ownsRow B 3 1 (.slice (some ⟨g2, 0, none⟩) (nb + 1) c2) (nb + 1) (intCellsL g.bound ++ [.int .i64 x1])) (hg2 : W1'.grownBy W2 q.ownBlock) (hat2 : q.ownBlock = some g2 ∨ g2 = W1'.heap.size) :
    Rd B b (.slice (some ⟨g1, 0, none⟩) (np + 1) c1, .slice (some ⟨g2, 0, none⟩) (nb + 1) c2, r, s) vs { g with parent := g.parent ++ [x0], bound := g.bound ++ [x1] } e ((W2.setCell ⟨b, 0, none⟩ (.slice (some ⟨g1, 0, none⟩) (np + 1) c1)).setCell ⟨b, 1, none⟩ (.slice (some ⟨g2, 0, none⟩) (nb + 1) c2)) ∧
    Below B w ((W2.setCell ⟨b, 0, none⟩ (.slice (some ⟨g1, 0, none⟩) (np + 1) c1)).setCell ⟨b, 1, none⟩ (.slice (some ⟨g2, 0, none⟩) (nb + 1) c2)) ∧
    StrK w ((W2.setCell ⟨b, 0, none⟩ (.slice (some ⟨g1, 0, none⟩) (np + 1) c1)).setCell ⟨b, 1, none⟩ (.slice (some ⟨g2, 0, none⟩) (nb + 1) c2)) := by
  subst hnp; subst hnb
  have h' := h.later hW
  have hbw := heap_lt hr
  have hb5 := heap_lt h.rb
  have hrb2 := scope_rb2 h hW hg1 hb1 hg2
  have hq := scope_q1 h hW hg1 hb1
  have hs1 := hW.size
  have hs2 := hg1.size
  have hs3 := hb1.size
  refine ⟨h'.pushScope x0 x1 ho1 hg1 rfl hat1 hb1 ho2 hg2 rfl hat2, ?_, ?_⟩
  · exact ((((below_grown hg hb (by omega)).trans (hW.mono (by omega))).trans ((below_row h'.parent hg1 (by omega)).trans ((hb1.mono (by omega)).trans (below_row hq hg2 (by omega))))).setCell hb _).setCell hb _
  · exact (((StrK.grown hg hr).trans (StrK.below hW)).trans ((StrK.row h'.parent (by decide) hg1).trans ((StrK.below hb1).trans (StrK.row hq (by decide) hg2)))).trans ((StrK.cell hrb2 _ _).trans (StrK.cell (hrb2.set0 _) _ _))
end

theorem wp_app1 {o : Oper} {a : Act} {K : Act → World → Prop} {Q : Exit → Act → World → Prop} {W : World} {B : Nat} (s x : Operand) (ho : o.op = .call { callee := .builtin .append, args := #[s, x], argTypes := #[22, 22] }) (d : Tmp) (hd : o.dst = some d)
    (v : Value) (n : Nat) (xs : List Value) (hs : a.eval s = v) (hown : W.ownsRow B 3 1 v n xs) (gb : Nat) (k0 : Int) (hx : a.eval x = .slice (some ⟨gb, 0, none⟩) 1 1) (hc : W.cell? ⟨gb, 0, none⟩ = some (.int .i64 k0)) (hn : n ≤ 1000) (hB : B ≤ W.heap.size)
    (h : ∀ g c w', w'.ownsRow B 3 1 (.slice (some ⟨g, 0, none⟩) (n + 1) c) (n + 1) (xs ++ [.int .i64 k0]) → W.grownBy w' v.ownBlock → (v.ownBlock = some g ∨ g = W.heap.size) → K (a.put (some d) (.slice (some ⟨g, 0, none⟩) (n + 1) c)) w') : Oper.wp Tryz.prog o a W K Q := by
  rw [← hd] at h
  obtain ⟨ie, hie, hez, hes, heb⟩ := info_parts Tryz.info3
  refine wp_append_lies W s x 22 ho B 3 ie _ 1 8 Tryz.underlying22 hie hez hes heb rfl (by omega) v n xs hs hown ⟨gb, 0, none⟩ 1 1 [.int .i64 k0] hx rfl ?_ ?_ (by omega) ?_ (by omega) hB _ rfl ?_
  · intro j u hj
    match j, hj with
    | 0, hj => simp at hj; subst hj; simpa [Addr.add] using hc
  · intro u hu; simp at hu; subst hu; rfl
  · unfold maxLen; omega
  · exact fun g c w' h1 h2 h3 _ => h g c w' h1 h2 h3

set_option maxHeartbeats 3200000 in
set_option maxRecDepth 100000 in
theorem rscope_any (B b : Nat) (v : Value × Value × Value × Value) (vs : List Value) (g : Gr) (e : Int) (wb wo c : Nat) (x0 x1 : List UInt8) (w : World) (h : Rd B b v vs g e w) (L : Libs w) (hB : 10 ≤ B) (hb : B ≤ b)
    (hl : Arr Rep.str w w.heap.size (some ⟨wb, wo, none⟩) 2 [x0, x1]) (hwb : wb ≠ b) (hx : ∀ x ∈ [x0, x1], x.length ≤ 1000000) (hgn : g.parent.length ≤ 1000) (hgb : g.bound.length ≤ 1000) :
    Calls Tryz.prog 40 #[.pointer (some ⟨b, 0, none⟩), .slice (some ⟨wb, wo, none⟩) 2 c] w fun r w' => r = .returned (.tuple #[]) ∧ ∃ v' vs', Rd B b v' vs' { g with parent := g.parent ++ [clampI (numV x0)], bound := g.bound ++ [clampI (numV x1)] } (scopeE g x0 x1 e) w' ∧ Below B w w' ∧ StrK w w' := by
  have HS := Lib.hid (rsmall_any b v e (some ⟨wb, wo, none⟩) 2 c [x0, x1] w h.rb L (by omega) hl (fun p hp => by injection hp with hp; subst hp; exact hwb) hx (by omega))
  have HR := Lib.hid h
  have hbs := heap_lt h.rb
  clear h hl L
  go_enter Tryz.func40, Tryz.ntmps40
  go_wp2_with fail
  refine HS.out.mono ?_
  rintro r w1 ⟨A1, c1, rfl, hn1, hm1, hA1, hAb1, hr1, hg1⟩
  have H1 := Lib.hid (And.intro hr1 (And.intro hg1 (And.intro hA1 hAb1)))
  clear hr1 hg1 hA1 hAb1 HS
  go_wp2_with fail
  refine (rfits_any b v _ A1 2 c1 _ _ H1.out.1 H1.out.2.2.1 (by unfold maxLen; omega)).mono ?_
  rintro r w3 ⟨rfl, hr3, hg3⟩
  have hA3 := arrInt_grown H1.out.2.2.1 (b := b) (fun p hp => by have := H1.out.2.2.2 p hp; omega) (Nat.le_refl _) hg3
  have hR3 := HR.out.err hr3 (grown_trans H1.out.2.1 hg3)
  have hg3' := grown_trans H1.out.2.1 hg3
  obtain ⟨vP, vB, vN, vE⟩ := v
  obtain ⟨PA, pc, hvP⟩ := own_slice hR3.parent
  obtain ⟨BA, bc, hvB⟩ := own_slice hR3.bound
  simp only at hvP hvB
  subst hvP; subst hvB
  have e3 : w3.cell? ⟨b, 0, none⟩ = some (.slice PA g.parent.length pc) := by rw [Lib.cell_of_heap hR3.rb]; rfl
  have H3 := Lib.hid (And.intro hR3 (And.intro hg3' (And.intro hA3 H1.out.2.2.2)))
  clear hr3 hg3 hA3 hR3 hg3'
  go_wp2_with fail
  refine (rroom_any b _ _ _ 8 _ H3.out.1.rb).mono ?_
  rintro r w4 ⟨rfl, hr4, hg4⟩
  have hR4 := H3.out.1.err hr4 hg4
  have hA4 := arrInt_grown H3.out.2.2.1 (b := b) (fun p hp => by have := H3.out.2.2.2 p hp; omega) (Nat.le_refl _) hg4
  have hg4' := grown_trans H3.out.2.1 hg4
  clear e3
  have e3 : w4.cell? ⟨b, 0, none⟩ = some (.slice PA g.parent.length pc) := by rw [Lib.cell_of_heap hR4.rb]; rfl
  have e4 : w4.cell? ⟨b, 1, none⟩ = some (.slice BA g.bound.length bc) := by rw [Lib.cell_of_heap hR4.rb]; rfl
  obtain ⟨a, o, rfl, ha, hx4⟩ := hA4.2 (by omega)
  have f0 := (hx4 0 _ rfl).1
  have f1 := (hx4 1 _ rfl).1
  simp only [Rep.int, Nat.mul_one, Nat.add_zero] at f0 f1
  have hab : a ≠ b := by have := H3.out.2.2.2 _ rfl; simp only at this; omega
  obtain ⟨ie, hie, hez, hes, heb⟩ := info_parts Tryz.info3
  have hb4 := heap_lt hR4.rb
  have hpa : some a ≠ (Value.slice PA g.parent.length pc).ownBlock := fun he => by have h1 := HR.out.parent.lt a he.symm; have h2 := H3.out.2.2.2 _ rfl; simp only at h2; omega
  have hpb : some b ≠ (Value.slice PA g.parent.length pc).ownBlock := fun he => own_rb hR4.parent hR4.rb (by decide) he.symm
  have H4 := Lib.hid (And.intro hR4 hg4')
  clear hr4 hg4 hR4 hA4 hg4' hx4
  generalize hk0 : clampI (numV x0) = k0 at f0
  generalize hk1 : clampI (numV x1) = k1 at f1
  have HKK := Lib.hid (And.intro hk0 hk1)
  clear hk0 hk1
  go_upto_region 3 with fail
  refine wp_region_N (fun k => decide (k < 21)) (fun W => W.cell? ⟨a, o, none⟩ = some (.int .i64 k0) ∧ W.cell? ⟨a, o + 1, none⟩ = some (.int .i64 k1) ∧ W.cell? ⟨b, 0, none⟩ = some (.slice PA g.parent.length pc) ∧ W.cell? ⟨b, 1, none⟩ = some (.slice BA g.bound.length bc)) [0, 1, 2, 3, 4, 5, 7, 8, 12, 13, 14, 15, 17, 18] [6, 9, 16, 19] 12 (by kernel_rfl) (by kernel_rfl) rfl (fun d _ _ _ _ h => by cases d <;> exact h) (by kernel_rfl) (by kernel_rfl) ⟨f0, f1, e3, e4⟩ ?_
  simp only [List.filterMap_cons, List.getElem?_toArray, List.getElem?_cons_succ, List.getElem?_cons_zero, List.filterMap_nil]
  repeat (quiet_step (fail))
  refine wpQuiet_nil ?_
  refine C_step (v := ?v1) rfl ?h1 ?_
  case h1 =>
    rintro W ⟨g0, g1, g2, g3⟩
    go_simp
    rfl
  refine C_step (v := ?v2) rfl ?h2 ?_
  case h2 =>
    rintro W ⟨g0, g1, g2, g3⟩
    go_simp
    rfl
  refine C_step (v := ?v3) rfl ?h3 ?_
  case h3 =>
    rintro W ⟨g0, g1, g2, g3⟩
    go_simp
    rfl
  refine C_step (v := ?v4) rfl ?h4 ?_
  case h4 =>
    rintro W ⟨g0, g1, g2, g3⟩
    go_simp
    rfl
  refine wpQuiet_nil ?_
  have HP := Lib.hid H4.out.1.parent
  have hB4 : B ≤ w4.heap.size := by omega
  have ha4 : a < w4.heap.size := ha
  refine N_two (k := 10) (k' := 20) (by kernel_rfl) rfl rfl rfl rfl ?_ ?_
  · go_simp
    refine ⟨?hS, ?_⟩
    case hS => exact Lib.hid trivial
    refine N_two (k := 11) (k' := 20) (by kernel_rfl) rfl rfl rfl rfl ?_ ?_
    · refine wp_app1 (B := B) (.tmp 25) (.tmp 29) rfl 30 rfl _ g.parent.length _ rfl (HP.out.alloc _) w4.heap.size k0 rfl ((World.cell?_alloc_new (w := w4) _ _ 0).trans rfl) (by omega) (by simp; omega) ?_
      intro g6 c6 w6 hown6 hgrow6 hat6
      have f0' := (hgrow6.cell_far ⟨a, o, none⟩ (show a < (w4.alloc _).heap.size by simp; omega) hpa).trans (Lib.cell?_alloc_marked _ f0)
      have f1' := (hgrow6.cell_far ⟨a, o + 1, none⟩ (show a < (w4.alloc _).heap.size by simp; omega) hpa).trans (Lib.cell?_alloc_marked _ f1)
      have e3' := (hgrow6.cell_far ⟨b, 0, none⟩ (show b < (w4.alloc _).heap.size by simp; omega) hpb).trans (Lib.cell?_alloc_marked _ e3)
      have e4' := (hgrow6.cell_far ⟨b, 1, none⟩ (show b < (w4.alloc _).heap.size by simp; omega) hpb).trans (Lib.cell?_alloc_marked _ e4)
      have hs6 := hgrow6.size
      simp at hs6
      have HW : Below w4.heap.size w4 (w4.alloc (.cells #[.int .i64 k0] 3)) := (Below.refl w4.heap.size w4).alloc (Nat.le_refl _) _
      have HG1 := grown_undrew hgrow6
      have HB1 : Below w6.heap.size w6 (w6.alloc (.cells #[.int .i64 k1] 3)) := (Below.refl w6.heap.size w6).alloc (Nat.le_refl _) _
      have H6 := Lib.hid (And.intro hown6 hat6)
      clear hown6 hgrow6 hat6
      refine ⟨Lib.hid (fun _ _ => ⟨f0', f1', e3', e4'⟩), ?_⟩
      refine N_one (k := 20) (by kernel_rfl) rfl rfl ?_
      have HH := Lib.hid (And.intro HW (And.intro HG1 HB1))
      clear HW HG1 HB1
      go_simp
      refine ⟨?hS, ?_⟩
      case hS => exact Lib.hid ⟨Lib.cell?_alloc_marked _ f0', Lib.cell?_alloc_marked _ f1', Lib.cell?_alloc_marked _ e3', Lib.cell?_alloc_marked _ e4'⟩
      refine N_tail 21 9 (by rfl) (fun j hj => by simp; omega) (by kernel_rfl) ?_
      simp only [List.drop_succ_cons, List.drop_zero]
      have hQ := Lib.hid (scope_q1 H4.out.1 HH.out.1 HH.out.2.1 HH.out.2.2)
      go_wp2_with (at_builtin; refine wpList_append_lies _ rfl _ _ 22 rfl B 3 ie _ 1 8 Tryz.underlying22 hie hez hes heb rfl (by omega) _ g.bound.length _ rfl hQ.out ⟨w6.heap.size, 0, none⟩ 1 1 [.int .i64 k1] rfl rfl ?hnews ?h1 (by omega) ?h63 ?hbytes ?hbase _ rfl ?_)
      case h1 => rfl
      case h63 => unfold maxLen; omega
      case hbytes => omega
      case hbase => omega
      intro g7 c7 w7 hown7 hgrow7 hat7 _
      have hrb7 := scope_rb2 H4.out.1 HH.out.1 HH.out.2.1 HH.out.2.2 hgrow7
      have d0 : w7.cell? ⟨b, 0, none⟩ = some (.slice PA g.parent.length pc) := by rw [Lib.cell_of_heap hrb7]; rfl
      have d1 : w7.cell? ⟨b, 1, none⟩ = some (.slice BA g.bound.length bc) := by rw [Lib.cell_of_heap hrb7]; rfl
      have z0 : w7.frozen? ⟨b, 0, none⟩ = false := Lib.frozen_of_heap hrb7 0
      have z1 : w7.frozen? ⟨b, 1, none⟩ = false := Lib.frozen_of_heap hrb7 1
      have H7 := Lib.hid (And.intro hown7 (And.intro (hgrow7) hat7))
      clear hown7 hgrow7 hat7 hrb7
      go_wp2_with fail
      go_end0
      rw [HKK.out.1, HKK.out.2]
      exact ⟨rfl, _, vs, scope_fin H4.out.1 H4.out.2 HR.out.rb hb k0 k1 rfl rfl HH.out.1 H6.out.1 HH.out.2.1 H6.out.2 HH.out.2.2 H7.out.1 H7.out.2.1 (H7.out.2.2.imp id (fun h => h.trans (by simp)))⟩
    · go_simp
      refine ⟨?hS, ?_⟩
      case hS => exact Lib.hid trivial
      refine N_one (k := 11) (by kernel_rfl) rfl rfl ?_
      have HW : Below w4.heap.size w4 ((w4.alloc (.cells #[.int .i64 k0] 3)).alloc (.cells #[.int .i64 k1] 3)) := ((Below.refl w4.heap.size w4).alloc (Nat.le_refl _) _).alloc (by simp) _
      have hc0 : ((w4.alloc (.cells #[.int .i64 k0] 3)).alloc (.cells #[.int .i64 k1] 3)).cell? ⟨w4.heap.size, 0, none⟩ = some (.int .i64 k0) := by first | exact Lib.cell?_alloc_marked _ ((World.cell?_alloc_new (w := w4) _ _ 0).trans rfl) | simp
      have hc1 : ((w4.alloc (.cells #[.int .i64 k0] 3)).alloc (.cells #[.int .i64 k1] 3)).cell? ⟨w4.heap.size + 1, 0, none⟩ = some (.int .i64 k1) := by first | exact (World.cell?_alloc_new (w := w4.alloc _) _ _ 0).trans rfl | simp
      refine wp_app1 (B := B) (.tmp 25) (.tmp 29) rfl 30 rfl _ g.parent.length _ rfl ((HP.out.alloc _).alloc _) (w4.heap.size) k0 rfl hc0 (by omega) (by simp; omega) ?_
      intro g6 c6 w6 hown6 hgrow6 hat6
      have f0' := (hgrow6.cell_far ⟨a, o, none⟩ (show a < ((w4.alloc _).alloc _).heap.size by simp; omega) hpa).trans (Lib.cell?_alloc_marked _ (Lib.cell?_alloc_marked _ f0))
      have f1' := (hgrow6.cell_far ⟨a, o + 1, none⟩ (show a < ((w4.alloc _).alloc _).heap.size by simp; omega) hpa).trans (Lib.cell?_alloc_marked _ (Lib.cell?_alloc_marked _ f1))
      have e3' := (hgrow6.cell_far ⟨b, 0, none⟩ (show b < ((w4.alloc _).alloc _).heap.size by simp; omega) hpb).trans (Lib.cell?_alloc_marked _ (Lib.cell?_alloc_marked _ e3))
      have e4' := (hgrow6.cell_far ⟨b, 1, none⟩ (show b < ((w4.alloc _).alloc _).heap.size by simp; omega) hpb).trans (Lib.cell?_alloc_marked _ (Lib.cell?_alloc_marked _ e4))
      have c1' := (hgrow6.cell_far ⟨w4.heap.size + 1, 0, none⟩ (show w4.heap.size + 1 < ((w4.alloc _).alloc _).heap.size by simp) (fun he => by have := (HP.out.lt (w4.heap.size + 1) he.symm).2; omega)).trans hc1
      have hs6 := hgrow6.size
      simp at hs6
      have HG1 := grown_undrew hgrow6
      have HB1 : Below w6.heap.size w6 w6 := Below.refl _ _
      have H6 := Lib.hid (And.intro hown6 hat6)
      have HH := Lib.hid (And.intro HW (And.intro HG1 HB1))
      clear hown6 hgrow6 hat6 HW HG1 HB1 hc0 hc1
      refine ⟨Lib.hid (fun _ _ => ⟨f0', f1', e3', e4'⟩), ?_⟩
      refine N_tail 21 9 (by rfl) (fun j hj => by simp; omega) (by kernel_rfl) ?_
      simp only [List.drop_succ_cons, List.drop_zero, Act.put, List.setIfInBounds_toArray, List.set_cons_succ, List.set_cons_zero]
      have hQ := Lib.hid (scope_q1 H4.out.1 HH.out.1 HH.out.2.1 HH.out.2.2)
      go_wp2_with (at_builtin; refine wpList_append_lies _ rfl _ _ 22 rfl B 3 ie _ 1 8 Tryz.underlying22 hie hez hes heb rfl (by omega) _ g.bound.length _ rfl hQ.out ⟨w4.heap.size + 1, 0, none⟩ 1 1 [.int .i64 k1] rfl rfl ?hnewsb ?honeb (by omega) ?h63b ?hbytesb ?hbaseb _ rfl ?_)
      case hnewsb =>
        intro j u hj
        match j, hj with
        | 0, hj => simp at hj; subst hj; simpa [Addr.add] using c1'
      case honeb => rfl
      case h63b => unfold maxLen; omega
      case hbytesb => omega
      case hbaseb => exact (by omega)
      intro g7 c7 w7 hown7 hgrow7 hat7 _
      have hrb7 := scope_rb2 H4.out.1 HH.out.1 HH.out.2.1 HH.out.2.2 hgrow7
      have d0 : w7.cell? ⟨b, 0, none⟩ = some (.slice PA g.parent.length pc) := by rw [Lib.cell_of_heap hrb7]; rfl
      have d1 : w7.cell? ⟨b, 1, none⟩ = some (.slice BA g.bound.length bc) := by rw [Lib.cell_of_heap hrb7]; rfl
      have z0 : w7.frozen? ⟨b, 0, none⟩ = false := Lib.frozen_of_heap hrb7 0
      have z1 : w7.frozen? ⟨b, 1, none⟩ = false := Lib.frozen_of_heap hrb7 1
      have H7 := Lib.hid (And.intro hown7 (And.intro (hgrow7) hat7))
      clear hown7 hgrow7 hat7 hrb7
      go_wp2_with fail
      go_end0
      rw [HKK.out.1, HKK.out.2]
      exact ⟨rfl, _, vs, scope_fin H4.out.1 H4.out.2 HR.out.rb hb k0 k1 rfl rfl HH.out.1 H6.out.1 HH.out.2.1 H6.out.2 HH.out.2.2 H7.out.1 H7.out.2.1 (H7.out.2.2.imp id (fun h => h.trans rfl))⟩
  · go_simp
    refine ⟨?hS, ?_⟩
    case hS => exact Lib.hid trivial
    refine N_one (k := 10) (by kernel_rfl) rfl rfl ?_
    go_simp
    refine ⟨?hS, ?_⟩
    case hS => exact Lib.hid trivial
    refine N_one (k := 11) (by kernel_rfl) rfl rfl ?_
    have HW : Below w4.heap.size w4 ((w4.alloc (.cells #[.int .i64 k1] 3)).alloc (.cells #[.int .i64 k0] 3)) := ((Below.refl w4.heap.size w4).alloc (Nat.le_refl _) _).alloc (by simp) _
    have hc0 : ((w4.alloc (.cells #[.int .i64 k1] 3)).alloc (.cells #[.int .i64 k0] 3)).cell? ⟨w4.heap.size + 1, 0, none⟩ = some (.int .i64 k0) := by first | exact (World.cell?_alloc_new (w := w4.alloc _) _ _ 0).trans rfl | simp
    have hc1 : ((w4.alloc (.cells #[.int .i64 k1] 3)).alloc (.cells #[.int .i64 k0] 3)).cell? ⟨w4.heap.size, 0, none⟩ = some (.int .i64 k1) := by first | exact Lib.cell?_alloc_marked _ ((World.cell?_alloc_new (w := w4) _ _ 0).trans rfl) | simp
    refine wp_app1 (B := B) (.tmp 25) (.tmp 29) rfl 30 rfl _ g.parent.length _ rfl ((HP.out.alloc _).alloc _) (w4.heap.size + 1) k0 rfl hc0 (by omega) (by simp; omega) ?_
    intro g6 c6 w6 hown6 hgrow6 hat6
    have f0' := (hgrow6.cell_far ⟨a, o, none⟩ (show a < ((w4.alloc _).alloc _).heap.size by simp; omega) hpa).trans (Lib.cell?_alloc_marked _ (Lib.cell?_alloc_marked _ f0))
    have f1' := (hgrow6.cell_far ⟨a, o + 1, none⟩ (show a < ((w4.alloc _).alloc _).heap.size by simp; omega) hpa).trans (Lib.cell?_alloc_marked _ (Lib.cell?_alloc_marked _ f1))
    have e3' := (hgrow6.cell_far ⟨b, 0, none⟩ (show b < ((w4.alloc _).alloc _).heap.size by simp; omega) hpb).trans (Lib.cell?_alloc_marked _ (Lib.cell?_alloc_marked _ e3))
    have e4' := (hgrow6.cell_far ⟨b, 1, none⟩ (show b < ((w4.alloc _).alloc _).heap.size by simp; omega) hpb).trans (Lib.cell?_alloc_marked _ (Lib.cell?_alloc_marked _ e4))
    have c1' := (hgrow6.cell_far ⟨w4.heap.size, 0, none⟩ (show w4.heap.size < ((w4.alloc _).alloc _).heap.size by simp; omega) (fun he => by have := (HP.out.lt w4.heap.size he.symm).2; omega)).trans hc1
    have hs6 := hgrow6.size
    simp at hs6
    have HG1 := grown_undrew hgrow6
    have HB1 : Below w6.heap.size w6 w6 := Below.refl _ _
    have H6 := Lib.hid (And.intro hown6 hat6)
    have HH := Lib.hid (And.intro HW (And.intro HG1 HB1))
    clear hown6 hgrow6 hat6 HW HG1 HB1 hc0 hc1
    refine ⟨Lib.hid (fun _ _ => ⟨f0', f1', e3', e4'⟩), ?_⟩
    refine N_tail 21 9 (by rfl) (fun j hj => by simp; omega) (by kernel_rfl) ?_
    simp only [List.drop_succ_cons, List.drop_zero, Act.put, List.setIfInBounds_toArray, List.set_cons_succ, List.set_cons_zero]
    have hQ := Lib.hid (scope_q1 H4.out.1 HH.out.1 HH.out.2.1 HH.out.2.2)
    go_wp2_with (at_builtin; refine wpList_append_lies _ rfl _ _ 22 rfl B 3 ie _ 1 8 Tryz.underlying22 hie hez hes heb rfl (by omega) _ g.bound.length _ rfl hQ.out ⟨w4.heap.size, 0, none⟩ 1 1 [.int .i64 k1] rfl rfl ?hnewsc ?honec (by omega) ?h63c ?hbytesc ?hbasec _ rfl ?_)
    case hnewsc =>
      intro j u hj
      match j, hj with
      | 0, hj => simp at hj; subst hj; simpa [Addr.add] using c1'
    case honec => rfl
    case h63c => unfold maxLen; omega
    case hbytesc => omega
    case hbasec => exact (by omega)
    intro g7 c7 w7 hown7 hgrow7 hat7 _
    have hrb7 := scope_rb2 H4.out.1 HH.out.1 HH.out.2.1 HH.out.2.2 hgrow7
    have d0 : w7.cell? ⟨b, 0, none⟩ = some (.slice PA g.parent.length pc) := by rw [Lib.cell_of_heap hrb7]; rfl
    have d1 : w7.cell? ⟨b, 1, none⟩ = some (.slice BA g.bound.length bc) := by rw [Lib.cell_of_heap hrb7]; rfl
    have z0 : w7.frozen? ⟨b, 0, none⟩ = false := Lib.frozen_of_heap hrb7 0
    have z1 : w7.frozen? ⟨b, 1, none⟩ = false := Lib.frozen_of_heap hrb7 1
    have H7 := Lib.hid (And.intro hown7 (And.intro (hgrow7) hat7))
    clear hown7 hgrow7 hat7 hrb7
    go_wp2_with fail
    go_end0
    rw [HKK.out.1, HKK.out.2]
    exact ⟨rfl, _, vs, scope_fin H4.out.1 H4.out.2 HR.out.rb hb k0 k1 rfl rfl HH.out.1 H6.out.1 HH.out.2.1 H6.out.2 HH.out.2.2 H7.out.1 H7.out.2.1 (H7.out.2.2.imp id (fun h => h.trans rfl))⟩

end Go.Proofs.YtigdaaloagecgaaGreatDoor
