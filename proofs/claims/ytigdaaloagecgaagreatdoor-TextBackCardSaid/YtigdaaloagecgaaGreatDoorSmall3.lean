/-
  What slices.ContainsFunc makes of text.reader.fits's inner function: its walk. No condition.
-/
import Derived.Test.YtigdaaloagecgaaGreatDoorSmall
namespace Go.Proofs.YtigdaaloagecgaaGreatDoor
open Go.RowKit

theorem rfits1_any (n : Int) (w : World) :
    Calls Tryz.prog 79 #[.int .i64 n] w fun e w' => e = .returned (.bool (badB n)) ∧ w = w' := by
  go_enter Tryz.func79, Tryz.ntmps79
  go_wp2
  · have h : n < 0 := by assumption
    go_ret
    exact ⟨ret_bool (badB_lo h).symm, rfl⟩
  · have h : 0 ≤ n := by assumption
    go_ret
    exact ⟨ret_bool (badB_hi h).symm, rfl⟩

set_option maxHeartbeats 400000 in
theorem idxInt_fits (A : Option Addr) (n cap : Nat) (l : List Int) (w : World) (h : Arr Rep.int w w.heap.size A n l) (hn : n ≤ maxLen) :
    Calls Tryz.prog 82 #[.slice A n cap, .func (.func 79) #[] #[]] w fun e w' => e = .returned (.int .i64 (idxOf badB l)) ∧ w = w' := by
  unfold maxLen at hn
  have HL := Lib.hid h.len
  go_enter Tryz.func82, Tryz.ntmps82
  go_wp2
  go_loop [8] (fun i => ∃ k : Nat, k ≤ n ∧ i = .int .i64 k ∧ ∀ i y, i < k → l[i]? = some y → badB y = false) (fun i => n - (intOf i).toNat)
  case atStart => exact ⟨0, by omega, rfl, fun i x hi => by omega⟩
  case round =>
    obtain ⟨k, hk, rfl, hall⟩ := hrel
    have HA := Lib.hid hall
    clear hall
    by_cases hlt : k < n
    · obtain ⟨b, o, x, rfl, hb, hx, hx', hc, i1, i2⟩ := h.at_ hlt
      simp only [Rep.int, Nat.mul_one, Nat.add_zero] at hc
      have HX := Lib.hid hx
      clear hx hx' h i1 i2
      go_wp2_with (go_at_call 79; refine (rfits1_any x _).mono ?_; rintro e w' ⟨rfl, rfl⟩)
      · have hb : badB x = true := by assumption
        go_ret
        exact ⟨ret_int (idxOf_hit _ _ _ x HX.out hb HA.out).symm, rfl⟩
      · have hb : badB x = false := by assumption
        go_round
        case rel =>
          refine ⟨k + 1, by omega, by go_num, fun i y hi hy => ?_⟩
          by_cases hik : i = k
          · subst hik
            rw [HX.out] at hy
            injection hy with hy
            subst hy
            exact hb
          · exact HA.out i y (by omega) hy
        case measure => simp [intOf]; omega
    · go_wp2
      go_ret
      exact ⟨ret_int (idxOf_none _ _ (fun i y hy => HA.out i y (by have := (List.getElem?_eq_some_iff.1 hy).1; have := HL.out; omega) hy)).symm, rfl⟩

theorem containsInt_fits (A : Option Addr) (n cap : Nat) (l : List Int) (w : World) (h : Arr Rep.int w w.heap.size A n l) (hn : n ≤ maxLen) :
    Calls Tryz.prog 64 #[.slice A n cap, .func (.func 79) #[] #[]] w fun e w' => e = .returned (.bool (l.any badB)) ∧ w = w' := by
  have H := Lib.hid (idxInt_fits A n cap l w h hn)
  have HV := Lib.hid (idxOf_any badB l)
  clear h hn
  go_enter Tryz.func64, Tryz.ntmps64
  generalize idxOf badB l = q at H HV
  go_wp2_with (go_at_call 82; refine H.out.mono ?_; rintro e w' ⟨rfl, rfl⟩)
  go_ret
  exact ⟨ret_bool HV.out, rfl⟩

end Go.Proofs.YtigdaaloagecgaaGreatDoor
