/-
  text.reader's line: its walk. Condition: the library's variables hold what its text lays.
-/
import Derived.Test.YtigdaaloagecgaaGreatDoorRedge
import Derived.Test.YtigdaaloagecgaaGreatDoorRnode
import Derived.Test.YtigdaaloagecgaaGreatDoorRins
import Derived.Test.YtigdaaloagecgaaGreatDoorRscope
namespace Go.Proofs.YtigdaaloagecgaaGreatDoor
open Go.RowKit

theorem eq_of_beq3 {n k : Nat} (h : ((n : Int) == (k : Int)) = true) : n = k := by have := beq_iff_eq.1 h; omega
set_option maxHeartbeats 1600000 in
set_option maxRecDepth 100000 in
theorem rline_no (b : Nat) (v : Value × Value × Value × Value) (e : Int) (wb n c : Nat) (x : List UInt8) (w : World) (h : RB b v e w) (hc : w.cell? ⟨wb, 0, none⟩ = some (.string (bs x))) (h1 : 1 ≤ n)
    (g1 : x = wScope → n ≠ 3) (g2 : x = wNode → n ≠ 4) (g3 : x = wIns → n ≠ 3) (g4 : x = wEdge → n ≠ 5) :
    Calls Tryz.prog 26 #[.pointer (some ⟨b, 0, none⟩), .slice (some ⟨wb, 0, none⟩) n c] w fun r w' => r = .returned (.tuple #[]) ∧ RB b v (orE e 4) w' ∧ w.grownBy w' (some b) := by
  have HF := Lib.hid (rfail_any b v e 4 w h)
  have G1 : Hid ((bs x).toList = [115, 99, 111, 112, 101] → (((n : Int) == 3) = true) → False) := fun a b => g1 (by rw [bs_toList] at a; exact a) (eq_of_beq3 (k := 3) b)
  have G2 : Hid ((bs x).toList = [110, 111, 100, 101] → (((n : Int) == 4) = true) → False) := fun a b => g2 (by rw [bs_toList] at a; exact a) (eq_of_beq3 (k := 4) b)
  have G3 : Hid ((bs x).toList = [105, 110, 115] → (((n : Int) == 3) = true) → False) := fun a b => g3 (by rw [bs_toList] at a; exact a) (eq_of_beq3 (k := 3) b)
  have G4 : Hid ((bs x).toList = [101, 100, 103, 101] → (((n : Int) == 5) = true) → False) := fun a b => g4 (by rw [bs_toList] at a; exact a) (eq_of_beq3 (k := 5) b)
  clear h g1 g2 g3 g4
  go_enter Tryz.func26, Tryz.ntmps26
  go_wp2_with fail
  all_goals
    first
      | exact (G1.out (by assumption) (by assumption)).elim
      | exact (G2.out (by assumption) (by assumption)).elim
      | exact (G3.out (by assumption) (by assumption)).elim
      | exact (G4.out (by assumption) (by assumption)).elim
      | (refine HF.out.mono ?_
         rintro r w' ⟨rfl, hr, hg⟩
         have HH := Lib.hid (And.intro hr hg)
         clear hr hg
         go_wp2_with fail
         go_end0
         exact ⟨rfl, HH.out.1, HH.out.2⟩)

theorem sTyp : ∃ is, Tryz.prog.info? 9 = some is ∧ is.size = 1 := Option.map_eq_some_iff.1 (show (Tryz.prog.info? 9).map (·.size) = some 1 by kernel_rfl)
theorem cut_words (wb n c : Nat) (hn : 1 ≤ n) (hc : 2 ≤ c) (W : World) : (Instr.slice 55 (.slice (some ⟨wb, 0, none⟩) n c) (some (.int .i64 ((1 : Nat) : Int))) none none).run Tryz.prog W = .ok (.slice (some ⟨wb, 1, none⟩) (n - 1) (c - 1)) W := by
  obtain ⟨is, his, h1⟩ := sTyp
  have := run_cut (P := Tryz.prog) 55 9 is Tryz.underlying55 his 1 h1 (some ⟨wb, 0, none⟩) n c 1 hn W
  rw [this]
  unfold cutA
  rw [if_neg (by omega)]
  simp [Addr.add]

section
variable (B b : Nat) (v : Value × Value × Value × Value) (vs : List Value) (g : Gr) (e : Int) (wb c : Nat) (x0 x1 x2 x3 : List UInt8) (w : World)
set_option maxHeartbeats 1600000 in
set_option maxRecDepth 100000 in
theorem rline_scope (h : Rd B b v vs g e w) (L : Libs w) (hB : 10 ≤ B) (hb : B ≤ b) (hl : Arr Rep.str w w.heap.size (some ⟨wb, 0, none⟩) 3 [wScope, x0, x1]) (hc3 : 3 ≤ c) (hcm : c ≤ maxLen) (hwb : wb ≠ b) (hx : ∀ x ∈ [x0, x1], x.length ≤ 1000000) (hgn : g.parent.length ≤ 1000) (hgb : g.bound.length ≤ 1000) :
    Calls Tryz.prog 26 #[.pointer (some ⟨b, 0, none⟩), .slice (some ⟨wb, 0, none⟩) 3 c] w fun r w' => r = .returned (.tuple #[]) ∧ ∃ v' vs', Rd B b v' vs' { g with parent := g.parent ++ [clampI (numV x0)], bound := g.bound ++ [clampI (numV x1)] } (scopeE g x0 x1 e) w' ∧ Below B w w' ∧ StrK w w' := by
  have HS := Lib.hid (rscope_any B b v vs g e wb 1 (c - 1) x0 x1 w h L hB hb (by have := hl.drop (k := 1) (by omega); simpa [Rep.str] using this) hwb hx hgn hgb)
  obtain ⟨_, _, y0, he0, -, hy0, -, hc0, -⟩ := hl.at_ (k := 0) (by omega)
  injection he0 with he0; injection he0 with he1 he2; subst he1; subst he2
  simp only [List.getElem?_cons_zero, Option.some.injEq] at hy0
  subst hy0
  simp only [Rep.str, Nat.mul_one, Nat.add_zero] at hc0
  have hcut := cut_words wb 3 c (by omega) (by omega)
  have hq : (bs wScope).toList = [115, 99, 111, 112, 101] := by rw [bs_toList]; rfl
  unfold maxLen at hcm
  clear h L hl
  go_enter Tryz.func26, Tryz.ntmps26
  go_wp2_with fail
  refine HS.out.mono ?_
  rintro r w' ⟨rfl, hh⟩
  have HH := Lib.hid hh
  clear hh
  go_wp2_with fail
  go_end0
  exact ⟨rfl, HH.out⟩
set_option maxHeartbeats 1600000 in
set_option maxRecDepth 100000 in
theorem rline_node (h : Rd B b v vs g e w) (L : Libs w) (hB : 10 ≤ B) (hb : B ≤ b) (hl : Arr Rep.str w w.heap.size (some ⟨wb, 0, none⟩) 4 [wNode, x0, x1, x2]) (hc4 : 4 ≤ c) (hcm : c ≤ maxLen) (hwb : wb ≠ b) (hx : ∀ x ∈ [x0, x1, x2], x.length ≤ 1000000) (hgn : g.nodes.length ≤ 1000) :
    Calls Tryz.prog 26 #[.pointer (some ⟨b, 0, none⟩), .slice (some ⟨wb, 0, none⟩) 4 c] w fun r w' => r = .returned (.tuple #[]) ∧ ∃ v' vs', Rd B b v' vs' { g with nodes := g.nodes ++ [nodeOf x0 x1 x2] } (nodeE g x0 x1 x2 e) w' ∧ Below B w w' ∧ StrK w w' := by
  have HS := Lib.hid (rnode_any B b v vs g e wb 1 (c - 1) x0 x1 x2 w h L hB hb (by have := hl.drop (k := 1) (by omega); simpa [Rep.str] using this) hwb hx hgn)
  obtain ⟨_, _, y0, he0, -, hy0, -, hc0, -⟩ := hl.at_ (k := 0) (by omega)
  injection he0 with he0; injection he0 with he1 he2; subst he1; subst he2
  simp only [List.getElem?_cons_zero, Option.some.injEq] at hy0
  subst hy0
  simp only [Rep.str, Nat.mul_one, Nat.add_zero] at hc0
  have hcut := cut_words wb 4 c (by omega) (by omega)
  have hq : (bs wNode).toList = [110, 111, 100, 101] := by rw [bs_toList]; rfl
  unfold maxLen at hcm
  clear h L hl
  go_enter Tryz.func26, Tryz.ntmps26
  go_wp2_with fail
  refine HS.out.mono ?_
  rintro r w' ⟨rfl, hh⟩
  have HH := Lib.hid hh
  clear hh
  go_wp2_with fail
  go_end0
  exact ⟨rfl, HH.out⟩
set_option maxHeartbeats 1600000 in
set_option maxRecDepth 100000 in
theorem rline_ins (h : Rd B b v vs g e w) (L : Libs w) (hB : 10 ≤ B) (hb : B ≤ b) (hl : Arr Rep.str w w.heap.size (some ⟨wb, 0, none⟩) 3 [wIns, x0, x1]) (hc3 : 3 ≤ c) (hcm : c ≤ maxLen) (hwb : wb ≠ b) (hx : ∀ x ∈ [x0, x1], x.length ≤ 1000000) (hgn : g.nodes.length ≤ 1000) (hgp : ∀ x ∈ g.nodes, x.prog.length ≤ 1000) :
    Calls Tryz.prog 26 #[.pointer (some ⟨b, 0, none⟩), .slice (some ⟨wb, 0, none⟩) 3 c] w fun r w' => r = .returned (.tuple #[]) ∧ ∃ v' vs', Rd B b v' vs' { g with nodes := addIns g.nodes (insOf x0 x1) } (insE g x0 x1 e) w' ∧ Below B w w' ∧ StrK w w' := by
  have HS := Lib.hid (rins_any B b v vs g e wb 1 (c - 1) x0 x1 w h L hB hb (by have := hl.drop (k := 1) (by omega); simpa [Rep.str] using this) hwb hx hgn hgp)
  obtain ⟨_, _, y0, he0, -, hy0, -, hc0, -⟩ := hl.at_ (k := 0) (by omega)
  injection he0 with he0; injection he0 with he1 he2; subst he1; subst he2
  simp only [List.getElem?_cons_zero, Option.some.injEq] at hy0
  subst hy0
  simp only [Rep.str, Nat.mul_one, Nat.add_zero] at hc0
  have hcut := cut_words wb 3 c (by omega) (by omega)
  have hq : (bs wIns).toList = [105, 110, 115] := by rw [bs_toList]; rfl
  unfold maxLen at hcm
  clear h L hl hgp
  go_enter Tryz.func26, Tryz.ntmps26
  go_wp2_with fail
  refine HS.out.mono ?_
  rintro r w' ⟨rfl, hh⟩
  have HH := Lib.hid hh
  clear hh
  go_wp2_with fail
  go_end0
  exact ⟨rfl, HH.out⟩
set_option maxHeartbeats 1600000 in
set_option maxRecDepth 100000 in
theorem rline_edge (h : Rd B b v vs g e w) (L : Libs w) (hB : 10 ≤ B) (hb : B ≤ b) (hl : Arr Rep.str w w.heap.size (some ⟨wb, 0, none⟩) 5 [wEdge, x0, x1, x2, x3]) (hc5 : 5 ≤ c) (hcm : c ≤ 1000) (hwb : wb ≠ b) (hx : ∀ x ∈ [x0, x1, x2, x3], x.length ≤ 1000000) (hge : g.edges.length ≤ 1000) :
    Calls Tryz.prog 26 #[.pointer (some ⟨b, 0, none⟩), .slice (some ⟨wb, 0, none⟩) 5 c] w fun r w' => r = .returned (.tuple #[]) ∧ ∃ v', Rd B b v' vs { g with edges := g.edges ++ [edgeOf x0 x1 x2 x3] } (edgeE g x0 x1 x2 x3 e) w' ∧ Below B w w' ∧ StrK w w' := by
  have HS := Lib.hid (redge_any B b v vs g e wb 1 (c - 1) x0 x1 x2 x3 w h L hB hb (by omega) (by omega) (by have := hl.drop (k := 1) (by omega); simpa [Rep.str] using this) hwb hx hge)
  obtain ⟨_, _, y0, he0, -, hy0, -, hc0, -⟩ := hl.at_ (k := 0) (by omega)
  injection he0 with he0; injection he0 with he1 he2; subst he1; subst he2
  simp only [List.getElem?_cons_zero, Option.some.injEq] at hy0
  subst hy0
  simp only [Rep.str, Nat.mul_one, Nat.add_zero] at hc0
  have hcut := cut_words wb 5 c (by omega) (by omega)
  have hq : (bs wEdge).toList = [101, 100, 103, 101] := by rw [bs_toList]; rfl
  clear h L hl
  go_enter Tryz.func26, Tryz.ntmps26
  go_wp2_with fail
  refine HS.out.mono ?_
  rintro r w' ⟨rfl, hh⟩
  have HH := Lib.hid hh
  clear hh
  go_wp2_with fail
  go_end0
  exact ⟨rfl, HH.out⟩
end

set_option maxHeartbeats 1600000 in
theorem rline_any (B b : Nat) (v : Value × Value × Value × Value) (vs : List Value) (g : Gr) (e : Int) (wb n c : Nat) (ws : List (List UInt8)) (w : World) (h : Rd B b v vs g e w) (L : Libs w) (hB : 10 ≤ B) (hb : B ≤ b)
    (hl : Arr Rep.str w w.heap.size (some ⟨wb, 0, none⟩) n ws) (h1 : 1 ≤ n) (hnc : n ≤ c) (hcm : c ≤ 1000) (hwb : wb ≠ b) (hx : ∀ x ∈ ws, x.length ≤ 1000000) (hf : FitG g) :
    Calls Tryz.prog 26 #[.pointer (some ⟨b, 0, none⟩), .slice (some ⟨wb, 0, none⟩) n c] w fun r w' => r = .returned (.tuple #[]) ∧ ∃ v' vs', Rd B b v' vs' (lineStep g ws e).1 (lineStep g ws e).2 w' ∧ Below B w w' ∧ StrK w w' := by
  have hn := hl.len
  have hbs := heap_lt h.rb
  have g1 := hf.hi
  have g2 := hf.same
  have g3 := hf.nodes
  have g4 := hf.edges
  have g5 : ∀ x ∈ g.nodes, x.prog.length ≤ 1000 := fun x hx => by have := (hf.node x hx).2.2.1; omega
  have no : ∀ (x : List UInt8), ws[0]? = some x → (x = wScope → n ≠ 3) → (x = wNode → n ≠ 4) → (x = wIns → n ≠ 3) → (x = wEdge → n ≠ 5) → Calls Tryz.prog 26 #[.pointer (some ⟨b, 0, none⟩), .slice (some ⟨wb, 0, none⟩) n c] w fun r w' => r = .returned (.tuple #[]) ∧ ∃ v' vs', Rd B b v' vs' g (orE e 4) w' ∧ Below B w w' ∧ StrK w w' := by
    intro x hx0 a1 a2 a3 a4
    obtain ⟨_, _, y0, he0, -, hy0, -, hc0, -⟩ := hl.at_ (k := 0) (by omega)
    injection he0 with he0; injection he0 with he1 he2; subst he1; subst he2
    rw [hx0] at hy0
    injection hy0 with hy0
    subst hy0
    simp only [Rep.str, Nat.mul_one, Nat.add_zero] at hc0
    refine (rline_no b v e wb n c x w h.rb hc0 h1 a1 a2 a3 a4).mono ?_
    rintro r w' ⟨rfl, hr, hg⟩
    exact ⟨rfl, v, vs, h.err hr hg, below_grown hg hb (by omega), StrK.grown hg h.rb⟩
  unfold lineStep
  split
  · next a x0 x1 =>
    have hn3 : n = 3 := by rw [← hn]; rfl
    subst hn3
    by_cases h2 : a = wScope
    · subst h2
      rw [if_pos rfl]
      exact rline_scope B b v vs g e wb c x0 x1 w h L hB hb hl hnc (by unfold maxLen; omega) hwb (fun x hx' => hx x (List.mem_cons_of_mem _ hx')) (by omega) (by omega)
    · rw [if_neg h2]
      by_cases h3 : a = wIns
      · subst h3
        rw [if_pos rfl]
        exact rline_ins B b v vs g e wb c x0 x1 w h L hB hb hl hnc (by unfold maxLen; omega) hwb (fun x hx' => hx x (List.mem_cons_of_mem _ hx')) (by omega) g5
      · rw [if_neg h3]
        exact no a rfl (fun e2 => absurd e2 h2) (fun _ => by omega) (fun e2 => absurd e2 h3) (fun _ => by omega)
  · next a x0 x1 x2 =>
    have hn3 : n = 4 := by rw [← hn]; rfl
    subst hn3
    by_cases h2 : a = wNode
    · subst h2
      rw [if_pos rfl]
      exact rline_node B b v vs g e wb c x0 x1 x2 w h L hB hb hl hnc (by unfold maxLen; omega) hwb (fun x hx' => hx x (List.mem_cons_of_mem _ hx')) (by omega)
    · rw [if_neg h2]
      exact no a rfl (fun _ => by omega) (fun e2 => absurd e2 h2) (fun _ => by omega) (fun _ => by omega)
  · next a x0 x1 x2 x3 =>
    have hn3 : n = 5 := by rw [← hn]; rfl
    subst hn3
    by_cases h2 : a = wEdge
    · subst h2
      rw [if_pos rfl]
      refine (rline_edge B b v vs g e wb c x0 x1 x2 x3 w h L hB hb hl hnc hcm hwb (fun x hx' => hx x (List.mem_cons_of_mem _ hx')) (by omega)).mono ?_
      rintro r w' ⟨he, v', hh⟩
      exact ⟨he, v', vs, hh⟩
    · rw [if_neg h2]
      exact no a rfl (fun _ => by omega) (fun _ => by omega) (fun _ => by omega) (fun e2 => absurd e2 h2)
  · next q1 q2 q3 =>
    obtain ⟨x, l, rfl⟩ : ∃ x l, ws = x :: l := List.exists_cons_of_length_pos (by omega)
    refine no x rfl ?_ ?_ ?_ ?_
    · intro _ e2; subst e2
      match l, hn with
      | [y, z], _ => exact q1 _ _ _ rfl
    · intro _ e2; subst e2
      match l, hn with
      | [y, z, u], _ => exact q2 _ _ _ _ rfl
    · intro _ e2; subst e2
      match l, hn with
      | [y, z], _ => exact q1 _ _ _ rfl
    · intro _ e2; subst e2
      match l, hn with
      | [y, z, u, t], _ => exact q3 _ _ _ _ _ rfl

end Go.Proofs.YtigdaaloagecgaaGreatDoor
