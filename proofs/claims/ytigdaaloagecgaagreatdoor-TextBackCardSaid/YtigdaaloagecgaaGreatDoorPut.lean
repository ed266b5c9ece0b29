/-
  graph.Put: its walk. No condition.
-/
import Derived.Test.YtigdaaloagecgaaGreatDoorWriter
import Derived.Test.YtigdaaloagecgaaGreatDoorFits
namespace Go.Proofs.YtigdaaloagecgaaGreatDoor
open Go.RowKit

theorem flat_take {α β : Type} {l : List α} {k : Nat} {x : α} (f : α → List β) (h : l[k]? = some x) : (l.take (k + 1)).flatMap f = (l.take k).flatMap f ++ f x := by
  have hk : k < l.length := (List.getElem?_eq_some_iff.1 h).1
  rw [List.take_succ_eq_append_getElem hk]
  have : l[k] = x := by rw [List.getElem?_eq_getElem hk] at h; injection h
  simp [this]

/-- what is put of a scope, an instruction, a node, an edge -/
def scopeB (x : Int × Int) : List UInt8 := uvs [x.1, x.2]
def insB (x : Ins) : List UInt8 := uvs [x.op] ++ uv (zz x.n)
def nodeB (x : Nd) : List UInt8 := uvs [x.kind, x.scope] ++ uv (zz x.arg) ++ uvs [(x.prog.length : Int)] ++ x.prog.flatMap insB
def edgeB (x : Ed) : List UInt8 := uvs [x.frm, x.dst, x.port, if x.ex then 1 else 0]
def scopesL (g : Gr) : List (Int × Int) := g.parent.tail.zip g.bound.tail
/-- graph.Put -/
def putBytes (g : Gr) : List UInt8 := [66, 87, 49] ++ uvs [(g.parent.length : Int)] ++ (scopesL g).flatMap scopeB ++ uvs [(g.nodes.length : Int)] ++ g.nodes.flatMap nodeB ++ uvs [(g.edges.length : Int)] ++ g.edges.flatMap edgeB

theorem lowB_iff {n : Int} : lowB n = true ↔ 0 ≤ n ∧ n ≤ 2147483647 := by simp [lowB]
theorem smallB_iff {l : List Int} : smallB l = true ↔ ∀ x ∈ l, 0 ≤ x ∧ x ≤ 2147483647 := by
  unfold smallB
  rw [List.all_eq_true]
  exact ⟨fun h x hx => lowB_iff.1 (h x hx), fun h x hx => lowB_iff.2 (h x hx)⟩

/-- what a graph that fits is -/
structure FitG (g : Gr) : Prop where
  lo : 1 ≤ g.parent.length
  hi : g.parent.length ≤ 8
  same : g.bound.length = g.parent.length
  p0 : g.parent[0]? = some (-1)
  b0 : g.bound[0]? = some 0
  parents : ∀ x ∈ g.parent.tail, 0 ≤ x ∧ x ≤ 2147483647
  bounds : ∀ x ∈ g.bound, 0 ≤ x ∧ x ≤ 2147483647
  nodes : g.nodes.length ≤ 32
  edges : g.edges.length ≤ 64
  node : ∀ x ∈ g.nodes, (0 ≤ x.kind ∧ x.kind ≤ 2147483647) ∧ (0 ≤ x.scope ∧ x.scope ≤ 2147483647) ∧ x.prog.length ≤ 64 ∧ ∀ y ∈ x.prog, 0 ≤ y.op ∧ y.op ≤ 2147483647
  edge : ∀ x ∈ g.edges, (0 ≤ x.frm ∧ x.frm ≤ 2147483647) ∧ (0 ≤ x.dst ∧ x.dst ≤ 2147483647) ∧ (0 ≤ x.port ∧ x.port ≤ 2147483647)
theorem badB_not {n : Int} : badB n = false ↔ 0 ≤ n ∧ n ≤ 2147483647 := by simp [badB, lowB]; try omega
theorem fitG {g : Gr} (h : fitsB g = true) : FitG g := by
  simp only [fitsB, headOK, Bool.and_eq_true, decide_eq_true_eq] at h
  obtain ⟨⟨⟨a1, a2, a3⟩, a4, a5, a6, a7⟩, ⟨a8, a9⟩, a10, a11⟩ := h
  refine ⟨a1, a2, a3, a4, a5, smallB_iff.1 a6, smallB_iff.1 a7, a8, a9, fun x hx => ?_, fun x hx => ?_⟩
  · have h1 := (List.all_eq_true.1 a10) x hx
    simp only [nodeOK, Bool.and_eq_true, decide_eq_true_eq, Bool.not_eq_true'] at h1
    obtain ⟨s1, s2, s3⟩ := h1
    have s1' := smallB_iff.1 s1
    refine ⟨s1' _ (by simp), s1' _ (by simp), s2, fun y hy => ?_⟩
    have := (List.any_eq_false.1 s3) y hy
    exact badB_not.1 (by simpa [insBad] using this)
  · simp only [Bool.not_eq_true'] at a11
    have h1 := (List.any_eq_false.1 a11) x hx
    have s1' := smallB_iff.1 (show smallB [x.frm, x.dst, x.port] = true by simpa [edBad] using h1)
    exact ⟨s1' _ (by simp), s1' _ (by simp), s1' _ (by simp)⟩

/-- the writer at b, the graph's box at B -/
structure PutAt (B : Nat) (w : World) (s : GS) (b : Nat) (l : List UInt8) (n : Nat) (W : World) : Prop where
  below : Below B w W
  box : W.heap[B]? = some (.cells #[.slice s.Pa s.pn s.pc, .slice s.Ba s.bn s.bc, .slice s.Na s.nn s.nc, .slice s.Ea s.en s.ec] 26 (0, 0))
  wr : WAt b l W
  gt : B < b
  le : l.length ≤ n
section
variable {B b n : Nat} {w W : World} {s : GS} {l : List UInt8}
theorem PutAt.c0 (h : PutAt B w s b l n W) : W.cell? ⟨B, 0, none⟩ = some (.slice s.Pa s.pn s.pc) := by rw [Lib.cell_of_heap h.box]; rfl
theorem PutAt.c1 (h : PutAt B w s b l n W) : W.cell? ⟨B, 1, none⟩ = some (.slice s.Ba s.bn s.bc) := by rw [Lib.cell_of_heap h.box]; rfl
theorem PutAt.c2 (h : PutAt B w s b l n W) : W.cell? ⟨B, 2, none⟩ = some (.slice s.Na s.nn s.nc) := by rw [Lib.cell_of_heap h.box]; rfl
theorem PutAt.c3 (h : PutAt B w s b l n W) : W.cell? ⟨B, 3, none⟩ = some (.slice s.Ea s.en s.ec) := by rw [Lib.cell_of_heap h.box]; rfl
theorem PutAt.size (h : PutAt B w s b l n W) : B < W.heap.size ∧ b < W.heap.size := by
  have := h.wr.lt; have := h.gt; omega
theorem PutAt.step {W' : World} {l' : List UInt8} {n' : Nat} (h : PutAt B w s b l n W) (hg : W.grownBy W' (some b)) (hw : WAt b l' W') (hn : l'.length ≤ n') : PutAt B w s b l' n' W' where
  below := h.below.grown hg (Nat.le_of_lt h.size.1) (fun k hk => by injection hk with hk; have := h.gt; omega)
  box := (hg.block B h.size.1 (by have := h.gt; intro e; injection e with e; omega)).trans h.box
  wr := hw
  gt := h.gt
  le := hn
theorem PutAt.alloc (h : PutAt B w s b l n W) (o : Obj) : PutAt B w s b l n (W.alloc o) where
  below := h.below.alloc (Nat.le_of_lt h.size.1) o
  box := (((Below.refl W.heap.size W).alloc (Nat.le_refl _) o).block B h.size.1).trans h.box
  wr := h.wr.later ((Below.refl W.heap.size W).alloc (Nat.le_refl _) o)
  gt := h.gt
  le := h.le
theorem PutAt.drew (h : PutAt B w s b l n W) : PutAt B w s b l n W.drew where
  below := h.below.drew
  box := h.box
  wr := h.wr.later (Below.refl W.heap.size W).drew
  gt := h.gt
  le := h.le
/-- add behind numbers that were just laid in a slice -/
theorem PutAt.add (h : PutAt B w s b l n W) {g : Nat} (hgs : g = W.heap.size) (cs : Array Value) (L : List Int) (m : Nat) (hL : L.length = m) (hcs : cs = (L.map (Value.int .i64)).toArray) (h0 : ∀ x ∈ L, 0 ≤ x ∧ x ≤ 9223372036854775807) (hm : n + 11 * m < 900000) :
    Calls Tryz.prog 28 #[.pointer (some ⟨b, 0, none⟩), .slice (some ⟨g, 0, none⟩) m m] (W.alloc (.cells cs 3)) fun e w' => e = .returned (.tuple #[]) ∧ PutAt B w s b (l ++ uvs L) (n + 11 * m) w' ∧ W.grownBy w' (some b) := by
  subst hgs
  have h1 := h.alloc (.cells cs 3)
  refine (wadd_any b l (some ⟨W.heap.size, 0, none⟩) m m L (W.alloc (.cells cs 3)) h1.wr (arr_ints rfl hL (fun i x hx => ?_)) ?_ (fun i x hx => (h0 x (List.mem_of_getElem? hx)).1) (by have := h.le; omega)).mono ?_
  · have := h0 x (List.mem_of_getElem? hx)
    refine ⟨?_, by omega, this.2⟩
    rw [hcs]
    simp [hx]
  · intro p hp
    injection hp with hp
    subst hp
    have := h.size
    simp; omega
  · rintro e w' ⟨rfl, hw, hg⟩
    refine ⟨rfl, h1.step hg hw ?_, grown_trans (grown_of_below ((Below.refl W.heap.size W).alloc (Nat.le_refl _) _) _) hg⟩
    have := uvs_len L (fun i x hx => (h0 x (List.mem_of_getElem? hx)).2)
    have := h.le
    rw [List.length_append]
    omega
/-- the same behind a draw -/
theorem PutAt.addD (h : PutAt B w s b l n W) {g : Nat} (hgs : g = W.heap.size) (cs : Array Value) (L : List Int) (m : Nat) (hL : L.length = m) (hcs : cs = (L.map (Value.int .i64)).toArray) (h0 : ∀ x ∈ L, 0 ≤ x ∧ x ≤ 9223372036854775807) (hm : n + 11 * m < 900000) :
    Calls Tryz.prog 28 #[.pointer (some ⟨b, 0, none⟩), .slice (some ⟨g, 0, none⟩) m m] (W.alloc (.cells cs 3)).drew fun e w' => e = .returned (.tuple #[]) ∧ PutAt B w s b (l ++ uvs L) (n + 11 * m) w' ∧ W.grownBy w' (some b) := by
  subst hgs
  have h1 := (h.alloc (.cells cs 3)).drew
  refine (wadd_any b l (some ⟨W.heap.size, 0, none⟩) m m L (W.alloc (.cells cs 3)).drew h1.wr ((arr_ints rfl hL (fun i x hx => ?_)).keep (w' := (W.alloc (.cells cs 3)).drew) (fun _ _ => rfl)) ?_ (fun i x hx => (h0 x (List.mem_of_getElem? hx)).1) (by have := h.le; omega)).mono ?_
  · have := h0 x (List.mem_of_getElem? hx)
    refine ⟨?_, by omega, this.2⟩
    rw [hcs]
    simp [hx]
  · intro p hp
    injection hp with hp
    subst hp
    have := h.size
    simp; omega
  · rintro e w' ⟨rfl, hw, hg⟩
    refine ⟨rfl, h1.step hg hw ?_, grown_trans (grown_of_below ((Below.refl W.heap.size W).alloc (Nat.le_refl _) _).drew _) hg⟩
    have := uvs_len L (fun i x hx => (h0 x (List.mem_of_getElem? hx)).2)
    have := h.le
    rw [List.length_append]
    omega
theorem zz_len (v : Int) : (uv (zz v)).length ≤ 11 := uv_len64 _ (zz_eq v).2.out
theorem PutAt.sign (h : PutAt B w s b l n W) (v : Int) (hm : n < 900000) :
    Calls Tryz.prog 29 #[.pointer (some ⟨b, 0, none⟩), .int .i64 v] W fun e w' => e = .returned (.tuple #[]) ∧ PutAt B w s b (l ++ uv (zz v)) (n + 11) w' ∧ W.grownBy w' (some b) := by
  refine (wsign_any b l v W h.wr (by have := h.le; omega)).mono ?_
  rintro e w' ⟨rfl, hw, hg⟩
  refine ⟨rfl, h.step hg hw ?_, hg⟩
  have := zz_len v
  have := h.le
  rw [List.length_append]
  omega
end

end Go.Proofs.YtigdaaloagecgaaGreatDoor
