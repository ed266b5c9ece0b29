/-
  The words of a line: none is empty; there are not more than bytes. No condition.
-/
import Derived.Test.YtigdaaloagecgaaGreatDoorParse2
import Derived.Lib.RuneCount
namespace Go.Proofs.YtigdaaloagecgaaGreatDoor
open Go.RowKit

theorem spans_ok (p : Nat → Bool) (s : ByteArray) : ∀ (f pos : Nat) (st : Option Nat) (acc : List (Nat × Nat)), (∀ x ∈ acc, x.1 < x.2 ∧ x.2 ≤ s.size) → (∀ a, st = some a → a < pos ∧ a < s.size) →
    (∀ x ∈ (Lib.spansFromP p s f pos st acc).1, x.1 < x.2 ∧ x.2 ≤ s.size) ∧ (∀ a, (Lib.spansFromP p s f pos st acc).2 = some a → a < s.size) ∧ (Lib.spansFromP p s f pos st acc).1.length ≤ acc.length + f
  | 0, pos, st, acc, ha, hs => ⟨ha, fun a e => (hs a e).2, Nat.le_refl _⟩
  | f + 1, pos, st, acc, ha, hs => by
    unfold Lib.spansFromP
    by_cases hp : pos < s.size
    · rw [if_pos hp]
      have hw := Lib.decode_width_pos s pos hp
      by_cases hq : p (Utf8.decode s pos).1 = true
      · rw [if_pos hq]
        cases st with
        | none =>
          have := spans_ok p s f (pos + (Utf8.decode s pos).2) none acc ha (fun a e => by cases e)
          exact ⟨this.1, this.2.1, Nat.le_trans this.2.2 (by omega)⟩
        | some a =>
          have h1 := hs a rfl
          have := spans_ok p s f (pos + (Utf8.decode s pos).2) none (acc ++ [(a, pos)]) (fun x hx => by
            rcases List.mem_append.1 hx with h | h
            · exact ha x h
            · simp at h; subst h; exact ⟨h1.1, by simp; omega⟩) (fun a e => by cases e)
          exact ⟨this.1, this.2.1, Nat.le_trans this.2.2 (by simp; omega)⟩
      · rw [if_neg hq]
        cases st with
        | none =>
          have := spans_ok p s f (pos + (Utf8.decode s pos).2) (some pos) acc ha (fun a e => by injection e with e; omega)
          exact ⟨this.1, this.2.1, Nat.le_trans this.2.2 (by omega)⟩
        | some a =>
          have h1 := hs a rfl
          have := spans_ok p s f (pos + (Utf8.decode s pos).2) (some a) acc ha (fun a' e => by injection e with e; omega)
          exact ⟨this.1, this.2.1, Nat.le_trans this.2.2 (by omega)⟩
    · rw [if_neg hp]
      exact ⟨ha, fun a e => (hs a e).2, Nat.le_add_right _ _⟩
theorem spansOf_ok (p : Nat → Bool) (s : ByteArray) : (∀ x ∈ Lib.spansOfP p s, x.1 < x.2 ∧ x.2 ≤ s.size) ∧ (Lib.spansOfP p s).length ≤ s.size + 1 := by
  obtain ⟨h1, h2, h3⟩ := spans_ok p s s.size 0 none [] (fun x hx => by simp at hx) (fun a e => by cases e)
  unfold Lib.spansOfP Lib.closeSpans
  cases hst : (Lib.spansFromP p s s.size 0 none []).2 with
  | none => exact ⟨h1, Nat.le_trans h3 (by simp)⟩
  | some a =>
    refine ⟨fun x hx => ?_, by simp at h3; simp; omega⟩
    rcases List.mem_append.1 hx with h | h
    · exact h1 x h
    · simp at h; subst h; exact ⟨h2 a hst, Nat.le_refl _⟩
theorem fields_ok (p : Nat → Bool) (s : ByteArray) : (∀ x ∈ Lib.goFieldsP p s, 1 ≤ x.size ∧ x.size ≤ s.size) ∧ (Lib.goFieldsP p s).length ≤ s.size + 1 := by
  obtain ⟨h1, h2⟩ := spansOf_ok p s
  refine ⟨fun x hx => ?_, by unfold Lib.goFieldsP; simpa using h2⟩
  obtain ⟨y, hy, rfl⟩ := List.mem_map.1 hx
  obtain ⟨h3, h4⟩ := h1 y hy
  rw [ByteArray.size_extract]
  omega
theorem words_ok (l : List UInt8) : (∀ x ∈ wordsOf (bs l), 1 ≤ x.length ∧ x.length ≤ l.length) ∧ (wordsOf (bs l)).length ≤ l.length + 1 := by
  obtain ⟨h1, h2⟩ := fields_ok isSp (bs l)
  rw [bs_size] at h2
  refine ⟨fun x hx => ?_, by unfold wordsOf; simpa using h2⟩
  obtain ⟨y, hy, rfl⟩ := List.mem_map.1 hx
  have := h1 y hy
  rw [bs_size] at this
  exact this
theorem fields_bs (s : ByteArray) : Lib.goFieldsP isSp s = (wordsOf s).map bs := by
  unfold wordsOf
  rw [List.map_map]
  exact (List.map_id' _).symm.trans rfl

end Go.Proofs.YtigdaaloagecgaaGreatDoor
