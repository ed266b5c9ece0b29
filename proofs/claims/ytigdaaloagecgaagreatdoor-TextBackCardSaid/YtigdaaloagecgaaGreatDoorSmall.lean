/-
  graph.small, and what slices.ContainsFunc makes of it: their walks. No condition.
-/
import Derived.Test.YtigdaaloagecgaaGreatDoorGraph
import Derived.Test.YtigdaaloagecgaaGreatDoorProg
namespace Go.Proofs.YtigdaaloagecgaaGreatDoor
open Go.RowKit

/-- where the first element lies of which p holds; -1: nowhere -/
def idxOf {α : Type} (p : α → Bool) : List α → Int
  | [] => -1
  | x :: l => if p x then 0 else if idxOf p l < 0 then -1 else idxOf p l + 1
theorem idxOf_ge {α : Type} (p : α → Bool) (l : List α) : -1 ≤ idxOf p l := by
  induction l with
  | nil => simp [idxOf]
  | cons x l ih => simp only [idxOf]; split <;> (try split) <;> omega
theorem idxOf_any {α : Type} (p : α → Bool) (l : List α) : decide (0 ≤ idxOf p l) = l.any p := by
  induction l with
  | nil => simp [idxOf]
  | cons x l ih =>
    have := idxOf_ge p l
    simp only [idxOf, List.any_cons, ← ih]
    split
    · rename_i h; simp [h]
    · rename_i h; split <;> simp [h] <;> omega
theorem idxOf_hit {α : Type} (p : α → Bool) (l : List α) : ∀ (k : Nat) (x : α), l[k]? = some x → p x = true → (∀ i y, i < k → l[i]? = some y → p y = false) → idxOf p l = k := by
  induction l with
  | nil => intro k x h; simp at h
  | cons z l ih =>
    intro k x h hp hn
    cases k with
    | zero => simp at h; subst h; simp [idxOf, hp]
    | succ k =>
      have hz := hn 0 z (by omega) rfl
      have h2 := ih k x (by simpa using h) hp (fun i y hi hy => hn (i + 1) y (by omega) (by simpa using hy))
      simp only [idxOf, hz, h2]
      rw [if_neg (by simp), if_neg (by omega)]; omega
theorem idxOf_none {α : Type} (p : α → Bool) (l : List α) (h : ∀ (i : Nat) (y : α), l[i]? = some y → p y = false) : idxOf p l = -1 := by
  induction l with
  | nil => rfl
  | cons z l ih =>
    have hz := h 0 z rfl
    have h2 := ih (fun i y hy => h (i + 1) y (by simpa using hy))
    simp [idxOf, hz, h2]

/-- not small -/
def badB (n : Int) : Bool := !lowB n
theorem badB_low {n : Int} (h : badB n = false) : lowB n = true := by simpa [badB] using h
theorem badB_lo {n : Int} (h : n < 0) : badB n = true := by simp [badB, lowB]; omega
theorem badB_hi {n : Int} (h : 0 ≤ n) : badB n = decide (2147483647 < n) := by
  simp only [badB, lowB, h, decide_true, Bool.true_and]
  by_cases hn : n ≤ 2147483647 <;> simp [hn] <;> omega

theorem small1_any (n : Int) (w : World) :
    Calls Tryz.prog 65 #[.int .i64 n] w fun e w' => e = .returned (.bool (badB n)) ∧ w = w' := by
  go_enter Tryz.func65, Tryz.ntmps65
  go_wp2
  · have h : n < 0 := by assumption
    go_ret
    exact ⟨ret_bool (badB_lo h).symm, rfl⟩
  · have h : 0 ≤ n := by assumption
    go_ret
    exact ⟨ret_bool (badB_hi h).symm, rfl⟩

set_option maxHeartbeats 400000 in
theorem idxInt_small (A : Option Addr) (n cap : Nat) (l : List Int) (w : World) (h : Arr Rep.int w w.heap.size A n l) (hn : n ≤ maxLen) :
    Calls Tryz.prog 82 #[.slice A n cap, .func (.func 65) #[] #[]] w fun e w' => e = .returned (.int .i64 (idxOf badB l)) ∧ w = w' := by
  unfold maxLen at hn
  have HL := Lib.hid h.len
  go_enter Tryz.func82, Tryz.ntmps82
  go_wp2
  go_loop [8] (fun i => ∃ k : Nat, k ≤ n ∧ i = .int .i64 k ∧ ∀ i y, i < k → l[i]? = some y → badB y = false) (fun i => n - (intOf i).toNat)
  case atStart => exact ⟨0, by omega, rfl, fun i x hi => by omega⟩
  case round =>
    obtain ⟨k, hk, rfl, hall⟩ := hrel
    have HA := Lib.hid hall
    clear hall
    by_cases hlt : k < n
    · obtain ⟨b, o, x, rfl, hb, hx, hx', hc, i1, i2⟩ := h.at_ hlt
      simp only [Rep.int, Nat.mul_one, Nat.add_zero] at hc
      have HX := Lib.hid hx
      clear hx hx' h i1 i2
      go_wp2_with (go_at_call 65; refine (small1_any x _).mono ?_; rintro e w' ⟨rfl, rfl⟩)
      · have hb : badB x = true := by assumption
        go_ret
        exact ⟨ret_int (idxOf_hit _ _ _ x HX.out hb HA.out).symm, rfl⟩
      · have hb : badB x = false := by assumption
        go_round
        case rel =>
          refine ⟨k + 1, by omega, by go_num, fun i y hi hy => ?_⟩
          by_cases hik : i = k
          · subst hik
            rw [HX.out] at hy
            injection hy with hy
            subst hy
            exact hb
          · exact HA.out i y (by omega) hy
        case measure => simp [intOf]; omega
    · go_wp2
      go_ret
      exact ⟨ret_int (idxOf_none _ _ (fun i y hy => HA.out i y (by have := (List.getElem?_eq_some_iff.1 hy).1; have := HL.out; omega) hy)).symm, rfl⟩

theorem containsInt_small (A : Option Addr) (n cap : Nat) (l : List Int) (w : World) (h : Arr Rep.int w w.heap.size A n l) (hn : n ≤ maxLen) :
    Calls Tryz.prog 64 #[.slice A n cap, .func (.func 65) #[] #[]] w fun e w' => e = .returned (.bool (l.any badB)) ∧ w = w' := by
  have H := Lib.hid (idxInt_small A n cap l w h hn)
  have HV := Lib.hid (idxOf_any badB l)
  clear h hn
  go_enter Tryz.func64, Tryz.ntmps64
  generalize idxOf badB l = q at H HV
  go_wp2_with (go_at_call 82; refine H.out.mono ?_; rintro e w' ⟨rfl, rfl⟩)
  go_ret
  exact ⟨ret_bool HV.out, rfl⟩

/-- graph.small -/
def smallB (l : List Int) : Bool := l.all lowB
theorem smallB_eq (l : List Int) : (!l.any badB) = smallB l := by
  simp only [smallB, List.any_eq_not_all_not, Bool.not_not]
  congr 1; funext x; simp [badB]
theorem small_any (A : Option Addr) (n cap : Nat) (l : List Int) (w : World) (h : Arr Rep.int w w.heap.size A n l) (hn : n ≤ maxLen) :
    Calls Tryz.prog 45 #[.slice A n cap] w fun e w' => e = .returned (.bool (smallB l)) ∧ w = w' := by
  have H := Lib.hid (containsInt_small A n cap l w h hn)
  have HV := Lib.hid (smallB_eq l)
  clear h hn
  go_enter Tryz.func45, Tryz.ntmps45
  generalize l.any badB = q at H HV
  go_wp2_with (go_at_call 64; refine H.out.mono ?_; rintro e w' ⟨rfl, rfl⟩)
  go_ret
  exact ⟨ret_bool HV.out, rfl⟩

end Go.Proofs.YtigdaaloagecgaaGreatDoor
