/-
  A text.reader's rows under an append that is stored back. No condition.
-/
import Derived.Test.YtigdaaloagecgaaGreatDoorRd
namespace Go.Proofs.YtigdaaloagecgaaGreatDoor
open Go.RowKit

theorem RB.set3 {b : Nat} {p q r s : Value} {e : Int} {W : World} (h : RB b (p, q, r, s) e W) (u : Value) : RB b (p, q, r, u) e (W.setCell ⟨b, 3, none⟩ u) := by
  show (W.setCell _ _).heap[b]? = _
  simp only [World.setCell, Array.getElem?_modify]
  rw [show W.heap[b]? = _ from h]
  simp
theorem RB.set2 {b : Nat} {p q r s : Value} {e : Int} {W : World} (h : RB b (p, q, r, s) e W) (u : Value) : RB b (p, q, u, s) e (W.setCell ⟨b, 2, none⟩ u) := by
  show (W.setCell _ _).heap[b]? = _
  simp only [World.setCell, Array.getElem?_modify]
  rw [show W.heap[b]? = _ from h]
  simp

section
variable {B b : Nat} {p q r s : Value} {vs : List Value} {g : Gr} {e : Int} {W W' : World}
/-- one more edge -/
theorem Rd.pushEdge (h : Rd B b (p, q, r, s) vs g e W) (x : Ed) {u : Value} (ho : W'.ownsRow B 45 4 u (g.edges.length + 1) (edgeCellsL g.edges ++ edgeCellsL [x])) (hg : W.grownBy W' s.ownBlock) :
    Rd B b (p, q, r, u) vs { g with edges := g.edges ++ [x] } e (W'.setCell ⟨b, 3, none⟩ u) := by
  have hrb : RB b (p, q, r, s) e W' := (hg.block b (heap_lt h.rb) (fun he => own_rb h.edges h.rb (by decide) he.symm)).trans h.rb
  have hs : W'.grownBy (W'.setCell ⟨b, 3, none⟩ u) (some b) := grown_set W' rfl u
  have kp : ∀ {size n : Nat} {t : TypeId} {y : Value} {xs : List Value}, W.ownsRow B t size y n xs → t ≠ 45 → t ≠ 63 → (W'.setCell ⟨b, 3, none⟩ u).ownsRow B t size y n xs := fun hy h1 h2 => by
    have k1 := hy.kept hg (own_ne hy h.edges h1)
    exact k1.kept hs (.inr (own_rb k1 hrb h2))
  exact {
    rb := hrb.set3 u
    parent := kp h.parent (by decide) (by decide)
    bound := kp h.bound (by decide) (by decide)
    nodes := kp h.nodes (by decide) (by decide)
    edges := by
      have := ho.kept hs (.inr (own_rb ho hrb (by decide)))
      simpa [edgeCellsL] using this
    vlen := h.vlen
    progs := fun i y z hy hz => kp (h.progs i y z hy hz) (by decide) (by decide)
    apart := h.apart
    aparts := h.aparts }
theorem nodeCellsL_append {l : List Nd} {vs : List Value} (h : vs.length = l.length) (x : Nd) (v : Value) : nodeCellsL (l ++ [x]) (vs ++ [v]) = nodeCellsL l vs ++ [.int .i64 x.kind, .int .i64 x.scope, .int .i64 x.arg, v] := by
  induction l generalizing vs with
  | nil =>
    have : vs = [] := List.eq_nil_of_length_eq_zero (by simpa using h)
    subst this
    simp [nodeCellsL]
  | cons y l ih =>
    cases vs with
    | nil => simp at h
    | cons z vs => simp only [List.cons_append, nodeCellsL, ih (by simpa using h), List.append_assoc]
/-- one more node, of no program -/
theorem Rd.pushNode (h : Rd B b (p, q, r, s) vs g e W) (x : Nd) (hx : x.prog = []) {u : Value} (ho : W'.ownsRow B 43 4 u (g.nodes.length + 1) (nodeCellsL g.nodes vs ++ [.int .i64 x.kind, .int .i64 x.scope, .int .i64 x.arg, .slice none 0 0])) (hg : W.grownBy W' r.ownBlock) :
    Rd B b (p, q, u, s) (vs ++ [.slice none 0 0]) { g with nodes := g.nodes ++ [x] } e (W'.setCell ⟨b, 2, none⟩ u) := by
  have hrb : RB b (p, q, r, s) e W' := (hg.block b (heap_lt h.rb) (fun he => own_rb h.nodes h.rb (by decide) he.symm)).trans h.rb
  have hs : W'.grownBy (W'.setCell ⟨b, 2, none⟩ u) (some b) := grown_set W' rfl u
  have kp : ∀ {size n : Nat} {t : TypeId} {y : Value} {xs : List Value}, W.ownsRow B t size y n xs → t ≠ 43 → t ≠ 63 → (W'.setCell ⟨b, 2, none⟩ u).ownsRow B t size y n xs := fun hy h1 h2 => by
    have k1 := hy.kept hg (own_ne hy h.nodes h1)
    exact k1.kept hs (.inr (own_rb k1 hrb h2))
  exact {
    rb := hrb.set2 u
    parent := kp h.parent (by decide) (by decide)
    bound := kp h.bound (by decide) (by decide)
    nodes := by
      have := ho.kept hs (.inr (own_rb ho hrb (by decide)))
      rw [nodeCellsL_append h.vlen]
      simpa using this
    edges := kp h.edges (by decide) (by decide)
    vlen := by simp [h.vlen]
    progs := fun i y z hy hz => by
      rcases Nat.lt_or_ge i g.nodes.length with hi | hi
      · rw [List.getElem?_append_left hi] at hy
        rw [List.getElem?_append_left (by rw [h.vlen]; exact hi)] at hz
        exact kp (h.progs i y z hy hz) (by decide) (by decide)
      · have hi' : i = g.nodes.length := by
          have := (List.getElem?_eq_some_iff.1 hy).1
          simp at this; omega
        subst hi'
        rw [List.getElem?_append_right (Nat.le_refl _)] at hy
        rw [List.getElem?_append_right (by rw [h.vlen]; exact Nat.le_refl _)] at hz
        simp at hy
        rw [h.vlen] at hz
        simp at hz
        subst hy; subst hz
        rw [hx]
        exact World.ownsRow_nil _ _ _ _
    apart := h.apart
    aparts := fun i j y z hij hy hz => by
      rcases Nat.lt_or_ge i vs.length with hi | hi
      · rw [List.getElem?_append_left hi] at hy
        rcases Nat.lt_or_ge j vs.length with hj | hj
        · rw [List.getElem?_append_left hj] at hz
          exact h.aparts i j y z hij hy hz
        · rw [List.getElem?_append_right hj] at hz
          have : z = .slice none 0 0 := by
            have := List.mem_of_getElem? hz
            simpa using this
          subst this
          cases hy' : y.ownBlock with
          | none => exact .inl rfl
          | some k => exact .inr (by simp [Value.ownBlock])
      · rw [List.getElem?_append_right hi] at hy
        have : y = .slice none 0 0 := by
          have := List.mem_of_getElem? hy
          simpa using this
        subst this
        exact .inl rfl }
end

end Go.Proofs.YtigdaaloagecgaaGreatDoor
