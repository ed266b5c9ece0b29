/-
  From the reading of a graph as a datum to the graph that lies in memory. No condition.
-/
import Derived.Test.YtigdaaloagecgaaGreatDoorShort
import Derived.Deep.Slices
import Derived.Deep.Fields
namespace Go.Proofs.YtigdaaloagecgaaGreatDoor
open Go.RowKit Go.ChangeShapes Go.WideShapes Go.Deep

theorem wf_i64 {n : Int} (h : (Lit.int .i64 n).wf = true) : I64 n := by
  simp only [Lit.wf, Bool.and_eq_true, decide_eq_true_eq] at h
  exact h
theorem spot_none {w : World} {a : Addr} {v : Value} (h : w.cell? a = some v) : a = ⟨a.block, a.off, none⟩ := by
  obtain ⟨b, o, s⟩ := a
  cases s with
  | none => rfl
  | some k => simp only [World.cell?] at h; split at h <;> simp at h
theorem add_shape (a : Addr) (h : a = ⟨a.block, a.off, none⟩) (i j : Nat) : (a.add i).add j = ⟨a.block, a.off + i + j, none⟩ := by
  obtain ⟨b, o, s⟩ := a
  injection h with _ _ h
  subst h
  rw [Addr.lit_add, Addr.lit_add]

section
variable {H : Type} {enc : TypeId × Value → H} {w : World} {base : Nat}
/-- a slice, element by element -/
theorem read_arr {α : Type} (r : Rep α) (hk : 0 < r.k) {t e : TypeId} (ht : Tryz.prog.underlying t = some (.slice e)) (hc : Tryz.prog.cellsOf e = r.k) {fuel : Nat} {cs : List Value} {x : DataW H × List MemPlace}
    (elem : ∀ (n : Nat) (cs : List Value) (x : DataW H × List MemPlace), DataW.trod enc Tryz.prog w base (fun _ => true) true n e cs = some x → cs.length = r.k → ∃ y : α, ∀ c : Nat → Option Value, (∀ j, j < r.k → c j = cs[j]?) → r.R w w.heap.size c y)
    (h : DataW.trod enc Tryz.prog w base (fun _ => true) true fuel t cs = some x) : ∃ (A : Option Addr) (n c : Nat) (xs : List α), cs = [.slice A n c] ∧ n ≤ c ∧ c ≤ maxLen ∧ Arr r w w.heap.size A n xs := by
  classical
  rcases open_slice ht h with ⟨h0, _⟩ | ⟨a, len, cap, m, n, D, Pl, hcs, hb, hl, hm, hmm, _, hx⟩
  · exact ⟨none, 0, 0, [], h0, Nat.le_refl _, Nat.zero_le _, Arr.none_⟩
  · simp only [if_true] at hmm
    subst hmm
    have each : ∀ i, i < len → ∃ y : α, (a = ⟨a.block, a.off, none⟩ ∧ a.block < w.heap.size) ∧ r.R w w.heap.size (fun j => w.cell? ⟨a.block, a.off + i * r.k + j, none⟩) y := by
      intro i hi
      obtain ⟨cs', h1, h2⟩ := hx i (by omega)
      rw [hc] at h1
      obtain ⟨_, hlen, hcell⟩ := World.cells?_some h1
      obtain ⟨y, hy⟩ := elem n cs' _ h2 hlen
      have h0 := hcell 0 hk
      have hsome : ∃ u, w.cell? ((a.add (i * r.k)).add 0) = some u := ⟨cs'[0]'(by omega), by rw [h0]; exact List.getElem?_eq_getElem (by omega)⟩
      obtain ⟨u, hu⟩ := hsome
      have hblk : ∀ j, (a.add j).block = a.block := fun j => by unfold Addr.add; split <;> rfl
      have hlt : a.block < w.heap.size := by
        have := World.block_lt_of_cell? w _ hu
        have e1 : ((a.add (i * r.k)).add 0).block = a.block := by unfold Addr.add; simp; split <;> rfl
        omega
      obtain ⟨cs0, g1, g2⟩ := hx 0 (by omega)
      rw [hc] at g1
      obtain ⟨_, glen, gcell⟩ := World.cells?_some g1
      have g0 := gcell 0 hk
      rw [Nat.zero_mul, show a.add 0 = a by simp [Addr.add], show a.add 0 = a by simp [Addr.add], List.getElem?_eq_getElem (by omega)] at g0
      have hsp := spot_none g0
      refine ⟨y, ⟨hsp, hlt⟩, hy _ fun j hj => ?_⟩
      rw [← add_shape a hsp]
      exact hcell j hj
    rcases Nat.eq_zero_or_pos len with hz | hz
    · subst hz
      exact ⟨some a, 0, m, [], hcs, hl, hm, Arr.zero rfl⟩
    · obtain ⟨y0, ⟨hsp, hlt⟩, _⟩ := each 0 hz
      haveI : Inhabited α := ⟨y0⟩
      obtain ⟨f, hf⟩ := choose_lt (α := α) (p := fun i y => r.R w w.heap.size (fun j => w.cell? ⟨a.block, a.off + i * r.k + j, none⟩) y) (fun i hi => (each i hi).imp fun y hy => hy.2)
      refine ⟨some a, len, m, (List.range len).map f, hcs, hl, hm, by simp, fun _ => ⟨a.block, a.off, by rw [← hsp], hlt, fun i x hi => ?_⟩⟩
      have hil : i < len := by have := (List.getElem?_eq_some_iff.1 hi).1; simpa using this
      have : x = f i := by simpa [hil] using hi.symm
      subst this
      exact hf i hil
theorem read_int {fuel : Nat} {cs : List Value} {x : DataW H × List MemPlace} (h : DataW.trod enc Tryz.prog w base (fun _ => true) true fuel 22 cs = some x) :
    ∃ (A : Option Addr) (n c : Nat) (xs : List Int), cs = [.slice A n c] ∧ n ≤ c ∧ c ≤ maxLen ∧ Arr Rep.int w w.heap.size A n xs :=
  read_arr Rep.int (by decide) Tryz.underlying22 (by kernel_rfl) (fun n cs x hh _ => by
    obtain ⟨v, rfl, _, hv⟩ := DataW.trod_int Tryz.underlying3 hh
    exact ⟨v, fun c hc => ⟨(hc 0 (by decide)).trans rfl, (wf_i64 hv).1, (wf_i64 hv).2⟩⟩) h
/-- the fields of a struct of one-cell fields -/
theorem read_fields {t : TypeId} {fs : Array Field} (ht : Tryz.prog.underlying t = some (.struct fs)) (hone : oneCellFields Tryz.prog fs = true) {fuel : Nat} {cs : List Value} {x : DataW H × List MemPlace} (h : DataW.trod enc Tryz.prog w base (fun _ => true) true fuel t cs = some x) (hl : cs.length = fs.size) :
    ∀ (j : Nat) (f : Field), fs[j]? = some f → ∃ v n y, cs[j]? = some v ∧ DataW.trod enc Tryz.prog w base (fun _ => true) true n f.type [v] = some y := by
  obtain ⟨xs, n, _, _, _, hxl, hf⟩ := DataW.trod_struct ht h
  intro j f hj
  obtain ⟨ho, hk⟩ := hone_of hone j f hj
  have hjl : j < fs.size := (Array.getElem?_eq_some_iff.1 hj).1
  have h1 := hf j f hj
  rw [ho, hk, List.drop_eq_getElem_cons (by omega)] at h1
  exact ⟨cs[j]'(by omega), n, xs[j]'(by omega), List.getElem?_eq_getElem (by omega), h1.trans (List.getElem?_eq_getElem (by omega))⟩
theorem read_ins {fuel : Nat} {cs : List Value} {x : DataW H × List MemPlace} (h : DataW.trod enc Tryz.prog w base (fun _ => true) true fuel 41 cs = some x) :
    ∃ (A : Option Addr) (n c : Nat) (xs : List Ins), cs = [.slice A n c] ∧ n ≤ c ∧ c ≤ maxLen ∧ Arr Rep.ins w w.heap.size A n xs :=
  read_arr Rep.ins (by decide) Tryz.underlying41 (by kernel_rfl) (fun n cs x hh hl => by
    have hf := read_fields Tryz.underlying59 (by kernel_rfl) hh hl
    obtain ⟨v0, _, _, e0, h0⟩ := hf 0 _ rfl
    obtain ⟨v1, _, _, e1, h1⟩ := hf 1 _ rfl
    obtain ⟨a0, q0, _, b0⟩ := DataW.trod_int Tryz.underlying3 h0
    obtain ⟨a1, q1, _, b1⟩ := DataW.trod_int Tryz.underlying2 h1
    injection q0 with q0; injection q1 with q1; subst q0; subst q1
    exact ⟨⟨a0, a1⟩, fun c hc => ⟨(hc 0 (by decide)).trans e0, (hc 1 (by decide)).trans e1, wf_i64 b0, wf_i64 b1⟩⟩) h
theorem read_edges {fuel : Nat} {cs : List Value} {x : DataW H × List MemPlace} (h : DataW.trod enc Tryz.prog w base (fun _ => true) true fuel 24 cs = some x) :
    ∃ (A : Option Addr) (n c : Nat) (xs : List Ed), cs = [.slice A n c] ∧ n ≤ c ∧ c ≤ maxLen ∧ Arr Rep.edge w w.heap.size A n xs :=
  read_arr Rep.edge (by decide) Tryz.underlying24 (by kernel_rfl) (fun n cs x hh hl => by
    have hf := read_fields Tryz.underlying45 (by kernel_rfl) hh hl
    obtain ⟨v0, _, _, e0, h0⟩ := hf 0 _ rfl
    obtain ⟨v1, _, _, e1, h1⟩ := hf 1 _ rfl
    obtain ⟨v2, _, _, e2, h2⟩ := hf 2 _ rfl
    obtain ⟨v3, _, _, e3, h3⟩ := hf 3 _ rfl
    obtain ⟨a0, q0, _, b0⟩ := DataW.trod_int Tryz.underlying3 h0
    obtain ⟨a1, q1, _, b1⟩ := DataW.trod_int Tryz.underlying3 h1
    obtain ⟨a2, q2, _, b2⟩ := DataW.trod_int Tryz.underlying3 h2
    obtain ⟨a3, q3, _⟩ := DataW.trod_bool Tryz.underlying4 h3
    injection q0 with q0; injection q1 with q1; injection q2 with q2; injection q3 with q3; subst q0; subst q1; subst q2; subst q3
    exact ⟨⟨a0, a1, a2, a3⟩, fun c hc => ⟨(hc 0 (by decide)).trans e0, (hc 1 (by decide)).trans e1, (hc 2 (by decide)).trans e2, (hc 3 (by decide)).trans e3, wf_i64 b0, wf_i64 b1, wf_i64 b2⟩⟩) h
theorem read_nodes {fuel : Nat} {cs : List Value} {x : DataW H × List MemPlace} (h : DataW.trod enc Tryz.prog w base (fun _ => true) true fuel 23 cs = some x) :
    ∃ (A : Option Addr) (n c : Nat) (xs : List Nd), cs = [.slice A n c] ∧ n ≤ c ∧ c ≤ maxLen ∧ Arr Rep.node w w.heap.size A n xs :=
  read_arr Rep.node (by decide) Tryz.underlying23 (by kernel_rfl) (fun n cs x hh hl => by
    have hf := read_fields Tryz.underlying43 (by kernel_rfl) hh hl
    obtain ⟨v0, _, _, e0, h0⟩ := hf 0 _ rfl
    obtain ⟨v1, _, _, e1, h1⟩ := hf 1 _ rfl
    obtain ⟨v2, _, _, e2, h2⟩ := hf 2 _ rfl
    obtain ⟨v3, _, _, e3, h3⟩ := hf 3 _ rfl
    obtain ⟨a0, q0, _, b0⟩ := DataW.trod_int Tryz.underlying3 h0
    obtain ⟨a1, q1, _, b1⟩ := DataW.trod_int Tryz.underlying3 h1
    obtain ⟨a2, q2, _, b2⟩ := DataW.trod_int Tryz.underlying2 h2
    obtain ⟨A, m, cp, ys, q3, c1, c2, c3⟩ := read_ins h3
    injection q0 with q0; injection q1 with q1; injection q2 with q2; injection q3 with q3; subst q0; subst q1; subst q2; subst q3
    exact ⟨⟨a0, a1, a2, ys⟩, fun c hc => ⟨(hc 0 (by decide)).trans e0, (hc 1 (by decide)).trans e1, (hc 2 (by decide)).trans e2, wf_i64 b0, wf_i64 b1, wf_i64 b2, A, m, cp, (hc 3 (by decide)).trans e3, c1, c2, c3⟩⟩) h
set_option maxRecDepth 100000 in
theorem read_graph {b0 : Nat} {v : Value} {d : DataW H} {p : List MemPlace} (hv : Value.okWide Tryz.prog w .any b0 26 v) (h : DataW.Trod enc Tryz.prog w base (fun _ => true) true 26 v d p) :
    ∃ (s : GS) (g : Gr), v = s.val ∧ GrAt w w.heap.size s g := by
  obtain ⟨cs, rfl, hsz⟩ := okWide_struct Tryz.underlying26 hv
  obtain ⟨fuel, hf⟩ := h
  have hsz4 : cs.size = 4 := hsz.trans (by kernel_rfl)
  obtain ⟨l⟩ := cs
  match l, hsz4 with
  | [c0, c1, c2, c3], _ =>
    have hr := read_fields Tryz.underlying26 (by kernel_rfl) (cs := [c0, c1, c2, c3]) hf rfl
    obtain ⟨v0, _, _, e0, h0⟩ := hr 0 _ rfl
    obtain ⟨v1, _, _, e1, h1⟩ := hr 1 _ rfl
    obtain ⟨v2, _, _, e2, h2⟩ := hr 2 _ rfl
    obtain ⟨v3, _, _, e3, h3⟩ := hr 3 _ rfl
    simp only [List.getElem?_cons_succ, List.getElem?_cons_zero, Option.some.injEq] at e0 e1 e2 e3
    subst e0; subst e1; subst e2; subst e3
    obtain ⟨A0, n0, k0, x0, q0, p1, p2, p3⟩ := read_int h0
    obtain ⟨A1, n1, k1, x1, q1, r1, r2, r3⟩ := read_int h1
    obtain ⟨A2, n2, k2, x2, q2, s1, s2, s3⟩ := read_nodes h2
    obtain ⟨A3, n3, k3, x3, q3, t1, t2, t3⟩ := read_edges h3
    injection q0 with q0; injection q1 with q1; injection q2 with q2; injection q3 with q3; subst q0; subst q1; subst q2; subst q3
    exact ⟨⟨A0, n0, k0, A1, n1, k1, A2, n2, k2, A3, n3, k3⟩, ⟨x0, x1, x2, x3⟩, rfl, p3, r3, s3, t3, p1, r1, s1, t1, p2, r2, s2, t2⟩
end

end Go.Proofs.YtigdaaloagecgaaGreatDoor
