/-
  What graph.fits asks of instructions and edges: its literals, and slices.ContainsFunc over them. No condition.
-/
import Derived.Test.YtigdaaloagecgaaGreatDoorSmall
namespace Go.Proofs.YtigdaaloagecgaaGreatDoor
open Go.RowKit

def insBad (x : Ins) : Bool := badB x.op
def edBad (x : Ed) : Bool := !smallB [x.frm, x.dst, x.port]

set_option maxHeartbeats 400000 in
theorem fits1_any (x : Ins) (w : World) (i0 : I64 x.op) :
    Calls Tryz.prog 47 #[.agg #[.int .i64 x.op, .int .i64 x.n]] w fun e w' => e = .returned (.bool (badB x.op)) ∧ Below w.heap.size w w' := by
  obtain ⟨op, n⟩ := x
  obtain ⟨i1, i2⟩ := i0
  simp only at i1 i2 ⊢
  go_enter Tryz.func47, Tryz.ntmps47
  go_wp2_with fail
  refine (small_any _ _ _ [op] _ (arr_ints (by simp) rfl (fun i x hi => ?_)) (by simp [maxLen])).mono ?_
  · match i, hi with
    | 0, hi => simp at hi; subst hi; exact ⟨rfl, i1, i2⟩
  rintro e w' ⟨rfl, rfl⟩
  go_wp2
  go_ret
  exact ⟨ret_bool (by simp [badB, smallB]), by go_grown⟩

set_option maxHeartbeats 400000 in
theorem fits2_any (x : Ed) (w : World) (i0 : I64 x.frm) (j0 : I64 x.dst) (k0 : I64 x.port) :
    Calls Tryz.prog 49 #[.agg #[.int .i64 x.frm, .int .i64 x.dst, .int .i64 x.port, .bool x.ex]] w fun e w' => e = .returned (.bool (edBad x)) ∧ Below w.heap.size w w' := by
  obtain ⟨f, t, p, ex⟩ := x
  obtain ⟨i1, i2⟩ := i0
  obtain ⟨j1, j2⟩ := j0
  obtain ⟨k1, k2⟩ := k0
  simp only at i1 i2 j1 j2 k1 k2 ⊢
  go_enter Tryz.func49, Tryz.ntmps49
  go_wp2_with fail
  refine (small_any _ _ _ [f, t, p] _ (arr_ints (by simp) rfl (fun i x hi => ?_)) (by simp [maxLen])).mono ?_
  · match i, hi with
    | 0, hi => simp at hi; subst hi; exact ⟨rfl, i1, i2⟩
    | 1, hi => simp at hi; subst hi; exact ⟨rfl, j1, j2⟩
    | 2, hi => simp at hi; subst hi; exact ⟨rfl, k1, k2⟩
  rintro e w' ⟨rfl, rfl⟩
  go_wp2
  go_ret
  exact ⟨rfl, by go_grown⟩

set_option maxHeartbeats 400000 in
theorem idxIns (A : Option Addr) (n cap : Nat) (l : List Ins) (w : World) (h : Arr Rep.ins w w.heap.size A n l) (hn : n ≤ maxLen) :
    Calls Tryz.prog 66 #[.slice A n cap, .func (.func 47) #[] #[]] w fun e w' => e = .returned (.int .i64 (idxOf insBad l)) ∧ Below w.heap.size w w' := by
  unfold maxLen at hn
  have HL := Lib.hid h.len
  go_enter Tryz.func66, Tryz.ntmps66
  go_wp2
  go_loopw [8] (fun i wr => ∃ k : Nat, k ≤ n ∧ i = .int .i64 k ∧ Below w.heap.size w wr ∧ ∀ i y, i < k → l[i]? = some y → insBad y = false) (fun i _ => n - (intOf i).toNat)
  case atStart => exact ⟨0, by omega, rfl, Below.refl _ _, fun i x hi => by omega⟩
  case round =>
    obtain ⟨k, hk, rfl, hbl, hall⟩ := hrel
    have HA := Lib.hid hall
    clear hall
    by_cases hlt : k < n
    · obtain ⟨b, o, x, rfl, hb, hx, hx', c0, c1, i0, _⟩ := (h.below hbl).at_ hlt
      simp only [Rep.ins, Nat.add_zero] at c0 c1
      have HX := Lib.hid hx
      clear hx hx' h
      go_wp2_with (go_at_call 47; refine (fits1_any x _ i0).mono ?_; rintro e w' ⟨rfl, hb1⟩)
      · have hb : badB x.op = true := by assumption
        go_ret
        exact ⟨ret_int (idxOf_hit _ _ _ x HX.out hb HA.out).symm, hbl.trans (hb1.mono hbl.size)⟩
      · have hb : badB x.op = false := by assumption
        go_roundw
        case rel =>
          refine ⟨k + 1, by omega, by go_num, hbl.trans (hb1.mono hbl.size), fun i y hi hy => ?_⟩
          by_cases hik : i = k
          · subst hik
            rw [HX.out] at hy
            injection hy with hy
            subst hy
            exact hb
          · exact HA.out i y (by omega) hy
        case measure => simp [intOf]; omega
    · go_wp2
      go_ret
      exact ⟨ret_int (idxOf_none _ _ (fun i y hy => HA.out i y (by have := (List.getElem?_eq_some_iff.1 hy).1; have := HL.out; omega) hy)).symm, hbl⟩

set_option maxHeartbeats 400000 in
theorem idxEd (A : Option Addr) (n cap : Nat) (l : List Ed) (w : World) (h : Arr Rep.edge w w.heap.size A n l) (hn : n ≤ maxLen) :
    Calls Tryz.prog 67 #[.slice A n cap, .func (.func 49) #[] #[]] w fun e w' => e = .returned (.int .i64 (idxOf edBad l)) ∧ Below w.heap.size w w' := by
  unfold maxLen at hn
  have HL := Lib.hid h.len
  go_enter Tryz.func67, Tryz.ntmps67
  go_wp2
  go_loopw [8] (fun i wr => ∃ k : Nat, k ≤ n ∧ i = .int .i64 k ∧ Below w.heap.size w wr ∧ ∀ i y, i < k → l[i]? = some y → edBad y = false) (fun i _ => n - (intOf i).toNat)
  case atStart => exact ⟨0, by omega, rfl, Below.refl _ _, fun i x hi => by omega⟩
  case round =>
    obtain ⟨k, hk, rfl, hbl, hall⟩ := hrel
    have HA := Lib.hid hall
    clear hall
    by_cases hlt : k < n
    · obtain ⟨b, o, x, rfl, hb, hx, hx', c0, c1, c2, c3, i0, j0, k0⟩ := (h.below hbl).at_ hlt
      simp only [Rep.edge, Nat.add_zero] at c0 c1 c2 c3
      have HX := Lib.hid hx
      clear hx hx' h
      go_wp2_with (go_at_call 49; refine (fits2_any x _ i0 j0 k0).mono ?_; rintro e w' ⟨rfl, hb1⟩)
      · have hb : edBad x = true := by assumption
        go_ret
        exact ⟨ret_int (idxOf_hit _ _ _ x HX.out hb HA.out).symm, hbl.trans (hb1.mono hbl.size)⟩
      · have hb : edBad x = false := by assumption
        go_roundw
        case rel =>
          refine ⟨k + 1, by omega, by go_num, hbl.trans (hb1.mono hbl.size), fun i y hi hy => ?_⟩
          by_cases hik : i = k
          · subst hik
            rw [HX.out] at hy
            injection hy with hy
            subst hy
            exact hb
          · exact HA.out i y (by omega) hy
        case measure => simp [intOf]; omega
    · go_wp2
      go_ret
      exact ⟨ret_int (idxOf_none _ _ (fun i y hy => HA.out i y (by have := (List.getElem?_eq_some_iff.1 hy).1; have := HL.out; omega) hy)).symm, hbl⟩

theorem containsIns (A : Option Addr) (n cap : Nat) (l : List Ins) (w : World) (h : Arr Rep.ins w w.heap.size A n l) (hn : n ≤ maxLen) :
    Calls Tryz.prog 46 #[.slice A n cap, .func (.func 47) #[] #[]] w fun e w' => e = .returned (.bool (l.any insBad)) ∧ Below w.heap.size w w' := by
  have H := Lib.hid (idxIns A n cap l w h hn)
  have HV := Lib.hid (idxOf_any insBad l)
  clear h hn
  go_enter Tryz.func46, Tryz.ntmps46
  generalize idxOf insBad l = q at H HV
  go_wp2_with (go_at_call 66; refine H.out.mono ?_; rintro e w' ⟨rfl, hb⟩)
  go_ret
  exact ⟨ret_bool HV.out, hb⟩

theorem containsEd (A : Option Addr) (n cap : Nat) (l : List Ed) (w : World) (h : Arr Rep.edge w w.heap.size A n l) (hn : n ≤ maxLen) :
    Calls Tryz.prog 48 #[.slice A n cap, .func (.func 49) #[] #[]] w fun e w' => e = .returned (.bool (l.any edBad)) ∧ Below w.heap.size w w' := by
  have H := Lib.hid (idxEd A n cap l w h hn)
  have HV := Lib.hid (idxOf_any edBad l)
  clear h hn
  go_enter Tryz.func48, Tryz.ntmps48
  generalize idxOf edBad l = q at H HV
  go_wp2_with (go_at_call 67; refine H.out.mono ?_; rintro e w' ⟨rfl, hb⟩)
  go_ret
  exact ⟨ret_bool HV.out, hb⟩

end Go.Proofs.YtigdaaloagecgaaGreatDoor
