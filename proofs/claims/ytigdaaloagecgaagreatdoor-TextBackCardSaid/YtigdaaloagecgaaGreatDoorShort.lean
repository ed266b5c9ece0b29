/-
  backwashref08.Short and low: their walks. No condition.
-/
import Derived.Test.YtigdaaloagecgaaGreatDoorGraph
import Derived.Test.YtigdaaloagecgaaGreatDoorProg
namespace Go.Proofs.YtigdaaloagecgaaGreatDoor
open Go.RowKit

theorem low_any (n : Int) (w : World) :
    Calls Tryz.prog 37 #[.int .i64 n] w fun e w' => e = .returned (.bool (lowB n)) ∧ w = w' := by
  go_enter Tryz.func37, Tryz.ntmps37
  go_wp2
  · have h : 0 ≤ n := by assumption
    go_ret
    exact ⟨ret_bool (by simp [lowB, h]), rfl⟩
  · have h : n < 0 := by assumption
    go_ret
    exact ⟨ret_bool (by simp [lowB]; omega), rfl⟩

theorem shortB_false {g : Gr} (h : 20 < g.parent.length ∨ 20 < g.bound.length ∨ 60 < g.nodes.length ∨ 100 < g.edges.length) : shortB g = false := by
  simp only [shortB, Bool.and_eq_false_iff, decide_eq_false_iff_not]
  left; omega
theorem shortB_false' {g : Gr} {k : Nat} {x : Nd} (hk : g.nodes[k]? = some x) (h : 100 < x.prog.length) : shortB g = false := by
  simp only [shortB, Bool.and_eq_false_iff, List.all_eq_false]
  right; exact ⟨x, List.mem_of_getElem? hk, by simp; omega⟩
theorem shortB_true {g : Gr} (h1 : g.parent.length ≤ 20) (h2 : g.bound.length ≤ 20) (h3 : g.nodes.length ≤ 60) (h4 : g.edges.length ≤ 100) (h : ∀ i x, i < g.nodes.length → g.nodes[i]? = some x → x.prog.length ≤ 100) : shortB g = true := by
  simp only [shortB, Bool.and_eq_true, decide_eq_true_eq, List.all_eq_true]
  exact ⟨⟨h1, h2, h3, h4⟩, fun x hx => by obtain ⟨i, hi, rfl⟩ := List.getElem_of_mem hx; exact h i _ hi (List.getElem?_eq_getElem hi)⟩

set_option maxHeartbeats 400000 in
theorem short_any (s : GS) (g : Gr) (w : World) (h : GrAt w w.heap.size s g) :
    Calls Tryz.prog 6 #[s.val] w fun e w' => e = .returned (.bool (shortB g)) ∧ Below w.heap.size w w' := by
  obtain ⟨Pa, pn, pc, Ba, bn, bc, Na, nn, nc, Ea, en, ec⟩ := s
  obtain ⟨h1, h2, h3, h4, c1, c2, c3, c4, m1, m2, m3, m4⟩ := h
  simp only at h1 h2 h3 h4 c1 c2 c3 c4 m1 m2 m3 m4
  unfold maxLen at m1 m2 m3 m4
  have L1 := h1.len
  have L2 := h2.len
  have L3 := h3.len
  have L4 := h4.len
  have HL := Lib.hid (And.intro L1 (And.intro L2 (And.intro L3 L4)))
  clear L1 L2 L3 L4
  unfold GS.val
  by_cases hA : pn ≤ 20 ∧ bn ≤ 20 ∧ nn ≤ 60 ∧ en ≤ 100
  · obtain ⟨a1, a2, a3, a4⟩ := hA
    go_enter Tryz.func6, Tryz.ntmps6
    go_wp2
    go_loop [3] (fun i => ∃ k : Nat, k ≤ nn ∧ i = .int .i64 k ∧ ∀ i x, i < k → g.nodes[i]? = some x → x.prog.length ≤ 100) (fun i => nn - (intOf i).toNat)
    case atStart => exact ⟨0, by omega, rfl, fun i x hi => by omega⟩
    case round =>
      obtain ⟨k, hk, rfl, hall⟩ := hrel
      have HA := Lib.hid hall
      clear hall
      by_cases hlt : k < nn
      · obtain ⟨b, o, x, rfl, hb, hx, hx', hr⟩ := h3.at_ hlt
        obtain ⟨_, _, _, _, _, _, A, n, cap, hc, hn, hm, hp⟩ := hr
        have HX := Lib.hid hx
        have HP := Lib.hid hp.len
        clear hx hx'
        simp only [Rep.node] at hc
        have HN := h3
        clear h1 h2 h3 h4 hp
        unfold maxLen at hm
        by_cases h100 : n ≤ 100
        · go_wp2
          go_round
          case rel =>
            refine ⟨k + 1, by omega, by go_num, fun i y hi hy => ?_⟩
            by_cases hik : i = k
            · subst hik
              rw [HX.out] at hy
              injection hy with hy
              subst hy
              rw [HP.out]; omega
            · exact HA.out i y (by omega) hy
          case measure => simp [intOf]; omega
        · go_wp2
          go_ret
          exact ⟨ret_bool (shortB_false' HX.out (by rw [HP.out]; omega)).symm, by go_grown⟩
      · go_wp2
        go_ret
        obtain ⟨l1, l2, l3, l4⟩ := HL.out
        exact ⟨ret_bool (shortB_true (by omega) (by omega) (by omega) (by omega) (fun i x hi hx => HA.out i x (by omega) hx)).symm, by go_grown⟩
  · go_enter Tryz.func6, Tryz.ntmps6
    go_wp2
    all_goals
      go_ret
      obtain ⟨l1, l2, l3, l4⟩ := HL.out
      exact ⟨ret_bool (shortB_false (by omega)).symm, by go_grown⟩

end Go.Proofs.YtigdaaloagecgaaGreatDoor
