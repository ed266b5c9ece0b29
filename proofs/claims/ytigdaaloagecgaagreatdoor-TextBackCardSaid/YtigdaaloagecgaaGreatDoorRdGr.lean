/-
  The graph of a text.reader, as it is read. No condition.
-/
import Derived.Test.YtigdaaloagecgaaGreatDoorParse
import Derived.Test.YtigdaaloagecgaaGreatDoorRd
namespace Go.Proofs.YtigdaaloagecgaaGreatDoor
open Go.RowKit

theorem own_arr {w : World} {base size n : Nat} {e : TypeId} {v : Value} {xs : List Value} (h : w.ownsRow base e size v n xs) :
    ∃ A c, v = .slice A n c ∧ n ≤ c ∧ c ≤ maxLen ∧ (0 < n → ∃ g, A = some ⟨g, 0, none⟩ ∧ g < w.heap.size ∧ ∀ (j : Nat) (u : Value), xs[j]? = some u → w.cell? ⟨g, j, none⟩ = some u) := by
  rcases h.2 with ⟨hv, hn⟩ | ⟨g, cap, cur, hv, hbg, hg, hnc, hcm, hsz, htk⟩
  · subst hn
    exact ⟨none, 0, hv, Nat.le_refl _, Nat.zero_le _, fun h0 => absurd h0 (by omega)⟩
  · refine ⟨some ⟨g, 0, none⟩, cap, hv, hnc, hcm, fun _ => ⟨g, rfl, heap_lt hg, fun j u hj => ?_⟩⟩
    rw [Lib.cell_of_heap hg]
    rw [← htk, List.getElem?_take] at hj
    split at hj
    · simpa using hj
    · cases hj
theorem nodeCellsL_at : ∀ (l : List Nd) (vs : List Value) (i : Nat) (x : Nd) (u : Value), l[i]? = some x → vs[i]? = some u →
    (nodeCellsL l vs)[i * 4]? = some (.int .i64 x.kind) ∧ (nodeCellsL l vs)[i * 4 + 1]? = some (.int .i64 x.scope) ∧ (nodeCellsL l vs)[i * 4 + 2]? = some (.int .i64 x.arg) ∧ (nodeCellsL l vs)[i * 4 + 3]? = some u
  | [], _, i, x, u, h, _ => by simp at h
  | _ :: _, [], i, x, u, _, h => by simp at h
  | y :: l, z :: vs, 0, x, u, h, h' => by
    simp at h h'
    subst h; subst h'
    simp [nodeCellsL]
  | y :: l, z :: vs, i + 1, x, u, h, h' => by
    have ih := nodeCellsL_at l vs i x u (by simpa using h) (by simpa using h')
    have e : (i + 1) * 4 = i * 4 + 4 := by omega
    rw [e, nodeCellsL]
    simpa [show i * 4 + 4 + 1 = (i * 4 + 1) + 4 by omega, show i * 4 + 4 + 2 = (i * 4 + 2) + 4 by omega, show i * 4 + 4 + 3 = (i * 4 + 3) + 4 by omega] using ih
theorem edgeCellsL_at : ∀ (l : List Ed) (i : Nat) (x : Ed), l[i]? = some x →
    (edgeCellsL l)[i * 4]? = some (.int .i64 x.frm) ∧ (edgeCellsL l)[i * 4 + 1]? = some (.int .i64 x.dst) ∧ (edgeCellsL l)[i * 4 + 2]? = some (.int .i64 x.port) ∧ (edgeCellsL l)[i * 4 + 3]? = some (.bool x.ex)
  | [], i, x, h => by simp at h
  | y :: l, 0, x, h => by
    simp at h
    subst h
    simp [edgeCellsL]
  | y :: l, i + 1, x, h => by
    have ih := edgeCellsL_at l i x (by simpa using h)
    have e : (i + 1) * 4 = i * 4 + 4 := by omega
    have e2 : edgeCellsL (y :: l) = [.int .i64 y.frm, .int .i64 y.dst, .int .i64 y.port, .bool y.ex] ++ edgeCellsL l := by simp [edgeCellsL]
    rw [e, e2]
    simpa [show i * 4 + 4 + 1 = (i * 4 + 1) + 4 by omega, show i * 4 + 4 + 2 = (i * 4 + 2) + 4 by omega, show i * 4 + 4 + 3 = (i * 4 + 3) + 4 by omega] using ih
theorem insCellsL_at : ∀ (l : List Ins) (i : Nat) (x : Ins), l[i]? = some x → (insCellsL l)[i * 2]? = some (.int .i64 x.op) ∧ (insCellsL l)[i * 2 + 1]? = some (.int .i64 x.n)
  | [], i, x, h => by simp at h
  | y :: l, 0, x, h => by
    simp at h
    subst h
    simp [insCellsL]
  | y :: l, i + 1, x, h => by
    have ih := insCellsL_at l i x (by simpa using h)
    have e : (i + 1) * 2 = i * 2 + 2 := by omega
    have e2 : insCellsL (y :: l) = [.int .i64 y.op, .int .i64 y.n] ++ insCellsL l := by simp [insCellsL]
    rw [e, e2]
    simpa [show i * 2 + 2 + 1 = (i * 2 + 1) + 2 by omega] using ih
theorem own_prog {w : World} {base : Nat} {e : TypeId} {v : Value} {l : List Ins} (h : w.ownsRow base e 2 v l.length (insCellsL l)) (hl : ∀ y ∈ l, I64 y.op ∧ I64 y.n) :
    ∃ A c, v = .slice A l.length c ∧ l.length ≤ c ∧ c ≤ maxLen ∧ Arr Rep.ins w w.heap.size A l.length l := by
  obtain ⟨A, c, hv, h1, h2, h3⟩ := own_arr h
  refine ⟨A, c, hv, h1, h2, rfl, fun hn => ?_⟩
  obtain ⟨g, hA, hg, hc⟩ := h3 hn
  refine ⟨g, 0, hA, hg, fun i x hi => ?_⟩
  obtain ⟨q1, q2⟩ := insCellsL_at l i x hi
  have hx := hl x (List.mem_of_getElem? hi)
  simp only [Rep.ins, Nat.zero_add, Nat.add_zero]
  exact ⟨hc _ _ q1, hc _ _ q2, hx.1, hx.2⟩
theorem Rd.grAt {B b : Nat} {v : Value × Value × Value × Value} {vs : List Value} {g : Gr} {e : Int} {W : World} (h : Rd B b v vs g e W) (ok : OKG g) :
    ∃ s : GS, v = (.slice s.Pa s.pn s.pc, .slice s.Ba s.bn s.bc, .slice s.Na s.nn s.nc, .slice s.Ea s.en s.ec) ∧ GrAt W W.heap.size s g := by
  obtain ⟨vP, vB, vN, vE⟩ := v
  have hpi : ∀ x ∈ g.parent, I64 x := by
    obtain ⟨p, ps, hp⟩ : ∃ p ps, g.parent = p :: ps := List.exists_cons_of_length_pos ok.fit.lo
    have h0 := ok.fit.p0
    have h1 := ok.fit.parents
    rw [hp] at h0 h1 ⊢
    intro x hx
    rcases List.mem_cons.1 hx with rfl | hx
    · simp at h0; subst h0; exact ⟨by omega, by omega⟩
    · have := h1 x hx; exact ⟨by omega, by omega⟩
  have hbi : ∀ x ∈ g.bound, I64 x := fun x hx => by have := ok.fit.bounds x hx; exact ⟨by omega, by omega⟩
  obtain ⟨PA, pc, hv1, p1, p2, p3⟩ := own_ints h.parent hpi
  obtain ⟨BA, bc, hv2, b1, b2, b3⟩ := own_ints h.bound hbi
  obtain ⟨NA, nc, hv3, n1, n2, n3⟩ := own_arr h.nodes
  obtain ⟨EA, ec, hv4, e1, e2, e3⟩ := own_arr h.edges
  simp only at hv1 hv2 hv3 hv4
  refine ⟨⟨PA, g.parent.length, pc, BA, g.bound.length, bc, NA, g.nodes.length, nc, EA, g.edges.length, ec⟩, by rw [hv1, hv2, hv3, hv4], p3, b3, ⟨rfl, fun hn => ?_⟩, ⟨rfl, fun hn => ?_⟩, p1, b1, n1, e1, p2, b2, n2, e2⟩
  · obtain ⟨q, hA, hq, hc⟩ := n3 hn
    refine ⟨q, 0, hA, hq, fun i x hi => ?_⟩
    have hil := (List.getElem?_eq_some_iff.1 hi).1
    obtain ⟨u, hu⟩ : ∃ u, vs[i]? = some u := ⟨_, List.getElem?_eq_getElem (by rw [h.vlen]; exact hil)⟩
    obtain ⟨c0, c1, c2, c3⟩ := nodeCellsL_at g.nodes vs i x u hi hu
    have hxm := List.mem_of_getElem? hi
    have k1 := ok.kinds x hxm
    have k2 := (ok.fit.node x hxm).2.1
    obtain ⟨A, c, hu', u1, u2, u3⟩ := own_prog (h.progs i x u hi hu) (fun y hy => ⟨by have := ok.ops x hxm y hy; exact ⟨by omega, by omega⟩, ok.ns x hxm y hy⟩)
    simp only [Rep.node, Nat.zero_add, Nat.add_zero]
    exact ⟨hc _ _ c0, hc _ _ c1, hc _ _ c2, ⟨by omega, by omega⟩, ⟨by omega, by omega⟩, ok.args x hxm, A, _, c, by rw [hc _ _ c3, hu'], u1, u2, u3⟩
  · obtain ⟨q, hA, hq, hc⟩ := e3 hn
    refine ⟨q, 0, hA, hq, fun i x hi => ?_⟩
    obtain ⟨c0, c1, c2, c3⟩ := edgeCellsL_at g.edges i x hi
    obtain ⟨k1, k2, k3⟩ := ok.fit.edge x (List.mem_of_getElem? hi)
    simp only [Rep.edge, Nat.zero_add, Nat.add_zero]
    exact ⟨hc _ _ c0, hc _ _ c1, hc _ _ c2, hc _ _ c3, ⟨by omega, by omega⟩, ⟨by omega, by omega⟩, ⟨by omega, by omega⟩⟩

end Go.Proofs.YtigdaaloagecgaaGreatDoor
