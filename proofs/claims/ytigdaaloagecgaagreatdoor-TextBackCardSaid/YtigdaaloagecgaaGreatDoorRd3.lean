/-
  A text.reader's rows under the appends of an instruction, of a scope. No condition.
-/
import Derived.Test.YtigdaaloagecgaaGreatDoorRdk
namespace Go.Proofs.YtigdaaloagecgaaGreatDoor
open Go.RowKit

theorem RB.set0 {b : Nat} {p q r s : Value} {e : Int} {W : World} (h : RB b (p, q, r, s) e W) (u : Value) : RB b (u, q, r, s) e (W.setCell ⟨b, 0, none⟩ u) := by
  show (W.setCell _ _).heap[b]? = _
  simp only [World.setCell, Array.getElem?_modify]
  rw [show W.heap[b]? = _ from h]
  simp
theorem RB.set1 {b : Nat} {p q r s : Value} {e : Int} {W : World} (h : RB b (p, q, r, s) e W) (u : Value) : RB b (p, u, r, s) e (W.setCell ⟨b, 1, none⟩ u) := by
  show (W.setCell _ _).heap[b]? = _
  simp only [World.setCell, Array.getElem?_modify]
  rw [show W.heap[b]? = _ from h]
  simp
theorem nodeCellsL_len : ∀ (l : List Nd) (vs : List Value), vs.length = l.length → (nodeCellsL l vs).length = l.length * 4
  | [], _, _ => by simp [nodeCellsL]
  | x :: l, [], h => by simp at h
  | x :: l, v :: vs, h => by
    simp only [nodeCellsL, List.length_append, List.length_cons, List.length_nil, nodeCellsL_len l vs (by simpa using h)]
    omega
theorem nodeCellsL_set {N : List Nd} {us : List Value} (h : us.length = N.length) (x : Nd) (u u' : Value) (y : List Ins) : (nodeCellsL (N ++ [x]) (us ++ [u])).set (N.length * 4 + 3) u' = nodeCellsL (N ++ [{ x with prog := y }]) (us ++ [u']) := by
  rw [nodeCellsL_append h, nodeCellsL_append h, List.set_append_right _ _ (by rw [nodeCellsL_len _ _ h]; omega), nodeCellsL_len _ _ h, show N.length * 4 + 3 - N.length * 4 = 3 by omega]
  rfl

section
variable {B b : Nat} {p q r s : Value} {us : List Value} {u u' : Value} {g : Gr} {e : Int} {W W' : World} {N : List Nd} {x : Nd}
/-- one more instruction of the last node -/
theorem Rd.pushIns (h : Rd B b (p, q, r, s) (us ++ [u]) g e W) (hN : g.nodes = N ++ [x]) (y : Ins) {nb n nc gb : Nat} (hr : r = .slice (some ⟨nb, 0, none⟩) n nc)
    (ho : W'.ownsRow B 59 2 u' (x.prog.length + 1) (insCellsL x.prog ++ insCellsL [y])) (hg : W.grownBy W' u.ownBlock) (hu : u'.ownBlock = some gb) (hat : u.ownBlock = some gb ∨ gb = W.heap.size) :
    Rd B b (p, q, r, s) (us ++ [u']) { g with nodes := N ++ [{ x with prog := x.prog ++ [y] }] } e (W'.setCell ⟨nb, N.length * 4 + 3, none⟩ u') := by
  have hul : us.length = N.length := by have := h.vlen; rw [hN] at this; simpa using this
  have hx0 : g.nodes[N.length]? = some x := by rw [hN]; simp
  have hu0 : (us ++ [u])[N.length]? = some u := by rw [← hul]; simp
  have hup := h.progs N.length x u hx0 hu0
  have hrb : RB b (p, q, r, s) e W' := (hg.block b (heap_lt h.rb) (fun he => own_rb hup h.rb (by decide) he.symm)).trans h.rb
  have hnod := h.nodes.kept hg (own_ne h.nodes hup (by decide))
  rw [hN, hr] at hnod
  simp only [List.length_append, List.length_cons, List.length_nil] at hnod
  have hnn : n = N.length + 1 := by
    rcases hnod.2 with ⟨h', _⟩ | ⟨g', cap', cur, h', _⟩
    · cases h'
    · injection h'
  subst hnn
  obtain ⟨hst, hgs⟩ := hnod.stored (N.length * 4 + 3) u'
  rw [nodeCellsL_set hul x u u' (x.prog ++ [y])] at hst
  have hnt := own_type hnod (g := nb) rfl
  have kp : ∀ {size m : Nat} {t : TypeId} {z : Value} {xs : List Value}, W'.ownsRow B t size z m xs → t ≠ 43 → (W'.setCell ⟨nb, N.length * 4 + 3, none⟩ u').ownsRow B t size z m xs := fun hz h1 => by
    refine hz.kept hgs ?_
    rcases own_ne hz hnod h1 with h2 | h2
    · exact .inl h2
    · exact .inr h2
  have kp2 : ∀ {size m : Nat} {t : TypeId} {z : Value} {xs : List Value}, W.ownsRow B t size z m xs → t ≠ 59 → t ≠ 43 → (W'.setCell ⟨nb, N.length * 4 + 3, none⟩ u').ownsRow B t size z m xs := fun hz h1 h2 => kp (hz.kept hg (own_ne hz hup h1)) h2
  have hbn : b ≠ nb := fun e2 => by
    subst e2
    exact own_rb hnod hrb (by decide) rfl
  have old : ∀ {i : Nat} {z : Value}, us[i]? = some z → i < N.length := fun hi => by have := (List.getElem?_eq_some_iff.1 hi).1; omega
  have memu : ∀ {i : Nat} {z : Value}, (us ++ [u'])[i]? = some z → (us[i]? = some z ∧ i < N.length) ∨ (i = N.length ∧ z = u') := fun {i z} hz => by
    rcases Nat.lt_or_ge i us.length with hi | hi
    · rw [List.getElem?_append_left hi] at hz
      exact .inl ⟨hz, old hz⟩
    · rw [List.getElem?_append_right hi] at hz
      have hi2 : i - us.length = 0 := by have := (List.getElem?_eq_some_iff.1 hz).1; simpa using this
      rw [hi2] at hz
      simp at hz
      exact .inr ⟨by omega, hz.symm⟩
  have oldu : ∀ {i : Nat} {z : Value}, us[i]? = some z → (us ++ [u])[i]? = some z := fun hi => by rw [List.getElem?_append_left (List.getElem?_eq_some_iff.1 hi).1]; exact hi
  have oldx : ∀ {i : Nat} {z : Nd}, i < N.length → (N ++ [{ x with prog := x.prog ++ [y] }])[i]? = some z → g.nodes[i]? = some z := fun hi hz => by rw [hN, List.getElem?_append_left hi]; rw [List.getElem?_append_left hi] at hz; exact hz
  have oldp : ∀ {i : Nat} {z : Value}, us[i]? = some z → z.ownBlock = none ∨ (∀ k, z.ownBlock = some k → k ≠ gb) := fun {i z} hi => by
    cases hz : z.ownBlock with
    | none => exact .inl rfl
    | some k =>
      refine .inr fun k' hk' hkg => ?_
      injection hk' with hk'
      subst hk'
      subst hkg
      have hlt := old hi
      obtain ⟨z', hz'⟩ : ∃ z', g.nodes[i]? = some z' := ⟨_, List.getElem?_eq_getElem (by rw [hN]; simp; omega)⟩
      have hown := h.progs i z' z hz' (oldu hi)
      rcases hat with h1 | h1
      · rcases h.aparts i N.length z u (by omega) (oldu hi) hu0 with h2 | h2
        · rw [h2] at hz; cases hz
        · exact h2 (by rw [hz, h1])
      · have := (hown.lt _ hz).2; omega
  exact {
    rb := (Below.heap_setCell W' ⟨nb, _, none⟩ u' b hbn).trans hrb
    parent := kp2 h.parent (by decide) (by decide)
    bound := kp2 h.bound (by decide) (by decide)
    nodes := by
      show (W'.setCell _ _).ownsRow B _ 4 r (N ++ [_]).length _
      rw [hr]
      simpa using hst
    edges := kp2 h.edges (by decide) (by decide)
    vlen := by simp [hul]
    progs := fun i z w hz hw => by
      rcases memu hw with ⟨h1, h2⟩ | ⟨rfl, rfl⟩
      · have hown := h.progs i z w (oldx h2 hz) (oldu h1)
        refine kp (hown.kept hg ?_) (by decide)
        rcases h.aparts i N.length w u (by omega) (oldu h1) hu0 with h3 | h3
        · exact .inl h3
        · exact .inr h3
      · rw [List.getElem?_append_right (Nat.le_refl _)] at hz
        simp at hz
        subst hz
        refine kp ?_ (by decide)
        simpa [insCellsL] using ho
    apart := h.apart
    aparts := fun i j z w hij hz hw => by
      rcases memu hz with ⟨h1, h2⟩ | ⟨rfl, rfl⟩
      · rcases memu hw with ⟨h3, h4⟩ | ⟨rfl, rfl⟩
        · exact h.aparts i j z w hij (oldu h1) (oldu h3)
        · rcases oldp h1 with h5 | h5
          · exact .inl h5
          · cases hz2 : z.ownBlock with
            | none => exact .inl rfl
            | some k => exact .inr (by rw [hu]; intro he; injection he with he; exact h5 k hz2 he)
      · rcases memu hw with ⟨h3, h4⟩ | ⟨rfl, rfl⟩
        · refine .inr ?_
          rw [hu]
          intro he
          rcases oldp h3 with h5 | h5
          · rw [h5] at he; cases he
          · exact h5 gb he.symm rfl
        · exact absurd rfl hij }
end

section
variable {B b : Nat} {p q r s u u2 : Value} {vs : List Value} {g : Gr} {e : Int} {W W1 W1' W2 : World}
/-- one more scope -/
theorem Rd.pushScope (h : Rd B b (p, q, r, s) vs g e W) (x0 x1 : Int) {gb gb2 : Nat} (ho : W1.ownsRow B 3 1 u (g.parent.length + 1) (intCellsL g.parent ++ intCellsL [x0])) (hg : W.grownBy W1 p.ownBlock) (hu : u.ownBlock = some gb) (hat : p.ownBlock = some gb ∨ gb = W.heap.size)
    (hb : Below W1.heap.size W1 W1') (ho2 : W2.ownsRow B 3 1 u2 (g.bound.length + 1) (intCellsL g.bound ++ intCellsL [x1])) (hg2 : W1'.grownBy W2 q.ownBlock) (hu2 : u2.ownBlock = some gb2) (hat2 : q.ownBlock = some gb2 ∨ gb2 = W1'.heap.size) :
    Rd B b (u, u2, r, s) vs { g with parent := g.parent ++ [x0], bound := g.bound ++ [x1] } e ((W2.setCell ⟨b, 0, none⟩ u).setCell ⟨b, 1, none⟩ u2) := by
  have hrb1 : RB b (p, q, r, s) e W1 := (hg.block b (heap_lt h.rb) (fun he => own_rb h.parent h.rb (by decide) he.symm)).trans h.rb
  have hrb1' : RB b (p, q, r, s) e W1' := hrb1.later hb
  have hq1 : W1.ownsRow B 3 1 q g.bound.length (intCellsL g.bound) := by
    refine h.bound.kept hg ?_
    rcases h.apart with h1 | h1
    · cases hq : q.ownBlock with
      | none => exact .inl rfl
      | some k => exact .inr (by show _ ≠ p.ownBlock; rw [show p.ownBlock = none from h1]; simp)
    · exact .inr (fun e2 => h1 e2.symm)
  have hgb := hg.size
  have hb0 := grown_of_below hb (none : Option Nat)
  have hq1' : W1'.ownsRow B 3 1 q g.bound.length (intCellsL g.bound) := hq1.kept hb0 (by cases q.ownBlock <;> simp)
  have hrb2 : RB b (p, q, r, s) e W2 := (hg2.block b (heap_lt hrb1') (fun he => own_rb hq1' hrb1' (by decide) he.symm)).trans hrb1'
  have hu1' := ho.kept hb0 (by rw [hu]; simp)
  have hgbq : q.ownBlock ≠ some gb := fun hq => by
    rcases hat with h1 | h1
    · rcases h.apart with h2 | h2
      · rw [show p.ownBlock = none from h2] at h1; cases h1
      · exact h2 (by show p.ownBlock = q.ownBlock; rw [h1, hq])
    · have := (h.bound.lt _ hq).2; omega
  have hgb1 : gb < W1.heap.size := (ho.lt _ hu).2
  have hs1 := hb.size
  have hu2' := hu1'.kept hg2 (.inr (by rw [hu]; exact fun e2 => hgbq e2.symm))
  have hne : gb ≠ gb2 := fun e2 => by
    subst e2
    rcases hat2 with h1 | h1
    · exact hgbq h1
    · omega
  have hsb : W2.grownBy ((W2.setCell ⟨b, 0, none⟩ u).setCell ⟨b, 1, none⟩ u2) (some b) := grown_trans (grown_set W2 rfl u) (grown_set _ rfl u2)
  have kp : ∀ {size m : Nat} {t : TypeId} {z : Value} {xs : List Value}, W.ownsRow B t size z m xs → t ≠ 3 → t ≠ 63 → ((W2.setCell ⟨b, 0, none⟩ u).setCell ⟨b, 1, none⟩ u2).ownsRow B t size z m xs := fun {size m t z xs} hz h1 h2 => by
    have k1 := hz.kept hg (own_ne hz h.parent h1)
    have k2 := k1.kept hb0 (by cases z.ownBlock <;> simp)
    have k3 := k2.kept hg2 (own_ne k2 hq1' h1)
    exact k3.kept hsb (.inr (own_rb k3 hrb2 h2))
  exact {
    rb := (hrb2.set0 u).set1 u2
    parent := by
      have := hu2'.kept hsb (.inr (own_rb hu2' hrb2 (by decide)))
      simpa [intCellsL] using this
    bound := by
      have := ho2.kept hsb (.inr (own_rb ho2 hrb2 (by decide)))
      simpa [intCellsL] using this
    nodes := kp h.nodes (by decide) (by decide)
    edges := kp h.edges (by decide) (by decide)
    vlen := h.vlen
    progs := fun i z w hz hw => kp (h.progs i z w hz hw) (by decide) (by decide)
    apart := .inr (by show u.ownBlock ≠ u2.ownBlock; rw [hu, hu2]; intro e2; injection e2 with e2; exact hne e2)
    aparts := h.aparts }
end

end Go.Proofs.YtigdaaloagecgaaGreatDoor
