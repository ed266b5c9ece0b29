/-
  A text.reader with its graph in memory. No condition.
-/
import Derived.Test.YtigdaaloagecgaaGreatDoorReader3
import Derived.Maps.AppendAt
namespace Go.Proofs.YtigdaaloagecgaaGreatDoor
open Go.RowKit

/-- the cells of a row of nodes: vs: their programs' slices -/
def nodeCellsL : List Nd → List Value → List Value
  | x :: l, v :: vs => [.int .i64 x.kind, .int .i64 x.scope, .int .i64 x.arg, v] ++ nodeCellsL l vs
  | _, _ => []
def edgeCellsL (l : List Ed) : List Value := l.flatMap fun x => [.int .i64 x.frm, .int .i64 x.dst, .int .i64 x.port, .bool x.ex]
def insCellsL (l : List Ins) : List Value := l.flatMap fun y => [.int .i64 y.op, .int .i64 y.n]
def intCellsL (l : List Int) : List Value := l.map (Value.int .i64)

/-- the reader in block b: its graph, its error; B: the blocks of its rows lie from there on -/
structure Rd (B b : Nat) (v : Value × Value × Value × Value) (vs : List Value) (g : Gr) (e : Int) (W : World) : Prop where
  rb : RB b v e W
  parent : W.ownsRow B 3 1 v.1 g.parent.length (intCellsL g.parent)
  bound : W.ownsRow B 3 1 v.2.1 g.bound.length (intCellsL g.bound)
  nodes : W.ownsRow B 43 4 v.2.2.1 g.nodes.length (nodeCellsL g.nodes vs)
  edges : W.ownsRow B 45 4 v.2.2.2 g.edges.length (edgeCellsL g.edges)
  vlen : vs.length = g.nodes.length
  progs : ∀ (i : Nat) (x : Nd) (u : Value), g.nodes[i]? = some x → vs[i]? = some u → W.ownsRow B 59 2 u x.prog.length (insCellsL x.prog)
  apart : v.1.ownBlock = none ∨ v.1.ownBlock ≠ v.2.1.ownBlock
  aparts : ∀ (i j : Nat) (u u' : Value), i ≠ j → vs[i]? = some u → vs[j]? = some u' → u.ownBlock = none ∨ u.ownBlock ≠ u'.ownBlock

theorem own_type {W : World} {B size n g : Nat} {e : TypeId} {u : Value} {xs : List Value} (h : W.ownsRow B e size u n xs) (hg : u.ownBlock = some g) : ∃ cur, W.heap[g]? = some (.cells cur e (0, 0)) := by
  rcases h.2 with ⟨rfl, _⟩ | ⟨g', cap, cur, rfl, _, hh, _⟩
  · cases hg
  · have : g' = g := by simpa [Value.ownBlock] using hg
    subst this
    exact ⟨cur, hh⟩
/-- rows of different types lie in different blocks -/
theorem own_ne {W : World} {B B' size size' n n' : Nat} {e e' : TypeId} {u u' : Value} {xs xs' : List Value} (h : W.ownsRow B e size u n xs) (h' : W.ownsRow B' e' size' u' n' xs') (hne : e ≠ e') : u.ownBlock = none ∨ u.ownBlock ≠ u'.ownBlock := by
  cases hu : u.ownBlock with
  | none => exact .inl rfl
  | some k =>
    refine .inr fun hk => ?_
    obtain ⟨c1, h1⟩ := own_type h hu
    obtain ⟨c2, h2⟩ := own_type h' hk.symm
    rw [h1] at h2
    injection h2 with h2
    injection h2 with _ h2
    exact hne h2
/-- no row lies in the reader's block -/
theorem own_rb {W : World} {B b size n : Nat} {e : TypeId} {u : Value} {xs : List Value} {v : Value × Value × Value × Value} {er : Int} (h : W.ownsRow B e size u n xs) (hr : RB b v er W) (hne : e ≠ 63) : u.ownBlock ≠ some b := by
  intro hu
  obtain ⟨c1, h1⟩ := own_type h hu
  rw [show W.heap[b]? = _ from hr] at h1
  injection h1 with h1
  injection h1 with _ h1
  exact hne h1.symm

section
variable {B b : Nat} {v : Value × Value × Value × Value} {vs : List Value} {g : Gr} {e : Int} {W W' : World}
/-- only the reader's block may have turned, and it holds the same slices -/
theorem Rd.err {e' : Int} (h : Rd B b v vs g e W) (hr : RB b v e' W') (hg : W.grownBy W' (some b)) : Rd B b v vs g e' W' where
  rb := hr
  parent := h.parent.kept hg (.inr (own_rb h.parent h.rb (by decide)))
  bound := h.bound.kept hg (.inr (own_rb h.bound h.rb (by decide)))
  nodes := h.nodes.kept hg (.inr (own_rb h.nodes h.rb (by decide)))
  edges := h.edges.kept hg (.inr (own_rb h.edges h.rb (by decide)))
  vlen := h.vlen
  progs := fun i x u hx hu => (h.progs i x u hx hu).kept hg (.inr (own_rb (h.progs i x u hx hu) h.rb (by decide)))
  apart := h.apart
  aparts := h.aparts
theorem Rd.later (h : Rd B b v vs g e W) (hb : Below W.heap.size W W') : Rd B b v vs g e W' := h.err (h.rb.later hb) (grown_of_below hb _)
end

end Go.Proofs.YtigdaaloagecgaaGreatDoor
