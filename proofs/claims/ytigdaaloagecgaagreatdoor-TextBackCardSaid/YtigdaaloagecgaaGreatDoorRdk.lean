/-
  What a text.reader's lines leave alone. No condition.
-/
import Derived.Test.YtigdaaloagecgaaGreatDoorRd2
import Derived.Test.YtigdaaloagecgaaGreatDoorParse
import Derived.Test.YtigdaaloagecgaaGreatDoorReg
import Derived.Deep.AppendLies
namespace Go.Proofs.YtigdaaloagecgaaGreatDoor
open Go.RowKit

/-- blocks of strings are as they were -/
def StrK (w w' : World) : Prop := ∀ (k : Nat) (cs : Array Value) (fz : Nat × Nat), w.heap[k]? = some (.cells cs 9 fz) → w'.heap[k]? = some (.cells cs 9 fz)
theorem StrK.refl (w : World) : StrK w w := fun _ _ _ h => h
theorem StrK.trans {a b c : World} (h : StrK a b) (k : StrK b c) : StrK a c := fun i cs fz hi => k i cs fz (h i cs fz hi)
theorem StrK.below {w w' : World} (h : Below w.heap.size w w') : StrK w w' := fun k _ _ hk => (h.block k (heap_lt hk)).trans hk
theorem StrK.grown {w w' : World} {b : Nat} {v : Value × Value × Value × Value} {e : Int} (h : w.grownBy w' (some b)) (hr : RB b v e w) : StrK w w' := fun k cs fz hk => (h.block k (heap_lt hk) (by
  intro he
  injection he with he
  subst he
  rw [show w.heap[k]? = _ from hr] at hk
  injection hk with hk
  injection hk with _ hk
  exact absurd hk (by decide))).trans hk
theorem Arr.take {α : Type} {r : Rep α} {w : World} {B n k : Nat} {A : Option Addr} {xs : List α} (h : Arr r w B A n xs) (hk : k ≤ n) : Arr r w B A k (xs.take k) := by
  refine ⟨by rw [List.length_take, h.1]; omega, fun hn => ?_⟩
  obtain ⟨b, o, e, hb, hx⟩ := h.2 (by omega)
  refine ⟨b, o, e, hb, fun i x hi => hx i x ?_⟩
  rw [List.getElem?_take] at hi
  split at hi
  · exact hi
  · cases hi
theorem arrInt_grown {w w' : World} {B b n : Nat} {A : Option Addr} {l : List Int} (h : Arr Rep.int w B A n l) (hA : ∀ p : Addr, A = some p → p.block ≠ b) (hB : B ≤ w.heap.size) (hg : w.grownBy w' (some b)) : Arr Rep.int w' w'.heap.size A n l := by
  refine ⟨h.1, fun hn => ?_⟩
  obtain ⟨a, o, e, ha, hx⟩ := h.2 hn
  refine ⟨a, o, e, by have := hg.size; omega, fun i x hi => ?_⟩
  obtain ⟨h1, h2, h3⟩ := hx i x hi
  have hne := hA _ e
  exact ⟨(World.cell?_of_block (w := w) (hg.block a (by omega) (by intro he; injection he with he; exact hne he))).trans h1, h2, h3⟩
theorem own_slice {w : World} {base size n : Nat} {t : TypeId} {v : Value} {xs : List Value} (h : w.ownsRow base t size v n xs) : ∃ A c, v = .slice A n c := by
  rcases h.2 with ⟨hv, hn⟩ | ⟨g, cap, cur, hv, _⟩
  · subst hn; exact ⟨none, 0, hv⟩
  · exact ⟨_, _, hv⟩
theorem StrK.row {w w' : World} {B size n : Nat} {t : TypeId} {v : Value} {xs : List Value} (h : w.ownsRow B t size v n xs) (ht : t ≠ 9) (hg : w.grownBy w' v.ownBlock) : StrK w w' := fun k cs fz hk => (hg.block k (heap_lt hk) (fun he => by
  obtain ⟨cur, hc⟩ := own_type h he.symm
  rw [hk] at hc
  injection hc with hc
  injection hc with _ hc
  exact ht hc.symm)).trans hk
theorem StrK.cell {w : World} {b : Nat} {v : Value × Value × Value × Value} {e : Int} (hr : RB b v e w) (i : Nat) (u : Value) : StrK w (w.setCell ⟨b, i, none⟩ u) := StrK.grown (grown_set w rfl u) hr
theorem grown_undrew {a c : World} {row : Option Nat} (h : a.drew.grownBy c row) : a.grownBy c row := ⟨h.os, h.tape, h.output, h.size, h.block⟩
theorem below_grown {w w' : World} {B b : Nat} (h : w.grownBy w' (some b)) (hb : B ≤ b) (hB : B ≤ w.heap.size) : Below B w w' := (Below.refl _ _).grown h hB (fun k hk => by injection hk with hk; omega)
theorem below_row {w w' : World} {B size n : Nat} {t : TypeId} {v : Value} {xs : List Value} (h : w.ownsRow B t size v n xs) (hg : w.grownBy w' v.ownBlock) (hB : B ≤ w.heap.size) : Below B w w' := (Below.refl _ _).grown hg hB (fun k hk => (h.lt k hk).1)

end Go.Proofs.YtigdaaloagecgaaGreatDoor
