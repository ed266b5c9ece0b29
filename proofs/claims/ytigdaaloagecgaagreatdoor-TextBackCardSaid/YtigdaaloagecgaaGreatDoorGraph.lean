/-
  Graphs as data, and how they lie in memory. No condition.
-/
import Derived.Test.YtigdaaloagecgaaGreatDoorPre
namespace Go.Proofs.YtigdaaloagecgaaGreatDoor
open Go.RowKit

structure Ins where
  op : Int
  n : Int
  deriving DecidableEq
structure Nd where
  kind : Int
  scope : Int
  arg : Int
  prog : List Ins
  deriving DecidableEq
structure Ed where
  frm : Int
  dst : Int
  port : Int
  ex : Bool
  deriving DecidableEq
structure Gr where
  parent : List Int
  bound : List Int
  nodes : List Nd
  edges : List Ed
  deriving DecidableEq

/-- a number of 64 bits with a sign -/
def I64 (x : Int) : Prop := -9223372036854775808 ≤ x ∧ x ≤ 9223372036854775807

def Rep.ins : Rep Ins where
  k := 2
  R := fun _ _ c x => c 0 = some (.int .i64 x.op) ∧ c 1 = some (.int .i64 x.n) ∧ I64 x.op ∧ I64 x.n
  keep := fun _ h => h
  more := fun _ h => h
def Rep.node : Rep Nd where
  k := 4
  R := fun w B c x => c 0 = some (.int .i64 x.kind) ∧ c 1 = some (.int .i64 x.scope) ∧ c 2 = some (.int .i64 x.arg) ∧ I64 x.kind ∧ I64 x.scope ∧ I64 x.arg ∧
    ∃ A n cap, c 3 = some (.slice A n cap) ∧ n ≤ cap ∧ cap ≤ maxLen ∧ Arr Rep.ins w B A n x.prog
  keep := fun hs ⟨h0, h1, h2, i0, i1, i2, A, n, cap, h3, h4, h5, h6⟩ => ⟨h0, h1, h2, i0, i1, i2, A, n, cap, h3, h4, h5, h6.keep hs⟩
  more := fun hB ⟨h0, h1, h2, i0, i1, i2, A, n, cap, h3, h4, h5, h6⟩ => ⟨h0, h1, h2, i0, i1, i2, A, n, cap, h3, h4, h5, h6.more hB⟩
def Rep.edge : Rep Ed where
  k := 4
  R := fun _ _ c x => c 0 = some (.int .i64 x.frm) ∧ c 1 = some (.int .i64 x.dst) ∧ c 2 = some (.int .i64 x.port) ∧ c 3 = some (.bool x.ex) ∧ I64 x.frm ∧ I64 x.dst ∧ I64 x.port
  keep := fun _ h => h
  more := fun _ h => h

/-- a graph's four slices: address, length, capacity of each -/
structure GS where
  Pa : Option Addr
  pn : Nat
  pc : Nat
  Ba : Option Addr
  bn : Nat
  bc : Nat
  Na : Option Addr
  nn : Nat
  nc : Nat
  Ea : Option Addr
  en : Nat
  ec : Nat
/-- a graph's value -/
def GS.val (s : GS) : Value := .agg #[.slice s.Pa s.pn s.pc, .slice s.Ba s.bn s.bc, .slice s.Na s.nn s.nc, .slice s.Ea s.en s.ec]
/-- a graph that lies in memory -/
structure GrAt (w : World) (B : Nat) (s : GS) (g : Gr) : Prop where
  parent : Arr Rep.int w B s.Pa s.pn g.parent
  bound : Arr Rep.int w B s.Ba s.bn g.bound
  nodes : Arr Rep.node w B s.Na s.nn g.nodes
  edges : Arr Rep.edge w B s.Ea s.en g.edges
  pc : s.pn ≤ s.pc
  bc : s.bn ≤ s.bc
  nc : s.nn ≤ s.nc
  ec : s.en ≤ s.ec
  pm : s.pc ≤ maxLen
  bm : s.bc ≤ maxLen
  nm : s.nc ≤ maxLen
  em : s.ec ≤ maxLen

theorem GrAt.keep {w w' : World} {B : Nat} {s : GS} {g : Gr} (h : GrAt w B s g) (hs : Same B w w') : GrAt w' B s g :=
  { h with parent := h.parent.keep hs, bound := h.bound.keep hs, nodes := h.nodes.keep hs, edges := h.edges.keep hs }
theorem GrAt.more {w : World} {B B' : Nat} {s : GS} {g : Gr} (h : GrAt w B s g) (hB : B ≤ B') : GrAt w B' s g :=
  { h with parent := h.parent.more hB, bound := h.bound.more hB, nodes := h.nodes.more hB, edges := h.edges.more hB }
theorem GrAt.belows {w w' : World} {B B0 : Nat} {s : GS} {g : Gr} (h : GrAt w B s g) (hb : Below B0 w w') (hB : B ≤ B0) : GrAt w' B s g := h.keep (Same.of_below hb hB)

/-- backwashref08.Short -/
def shortB (g : Gr) : Bool := decide (g.parent.length ≤ 20 ∧ g.bound.length ≤ 20 ∧ g.nodes.length ≤ 60 ∧ g.edges.length ≤ 100) && g.nodes.all fun x => decide (x.prog.length ≤ 100)
/-- backwashref08.low, graph.small at one number -/
def lowB (n : Int) : Bool := decide (0 ≤ n) && decide (n ≤ 2147483647)

end Go.Proofs.YtigdaaloagecgaaGreatDoor
