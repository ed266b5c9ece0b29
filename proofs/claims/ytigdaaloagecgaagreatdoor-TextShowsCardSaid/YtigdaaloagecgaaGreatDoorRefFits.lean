/-
  backwashref08.Fits: its walk. No condition.
-/
import Derived.Test.YtigdaaloagecgaaGreatDoorFits
import Derived.Test.YtigdaaloagecgaaGreatDoorShort
namespace Go.Proofs.YtigdaaloagecgaaGreatDoor
open Go.RowKit

theorem smallB_false {l : List Int} {k : Nat} {x : Int} (hk : l[k]? = some x) (h : lowB x = false) : smallB l = false := all_false hk h
theorem headOK_tail {g : Gr} {k : Nat} {x : Int} (h0 : 0 < k) (hk : g.parent[k]? = some x) (h : lowB x = false) : headOK g = false := by
  have : smallB g.parent.tail = false := smallB_false (k := k - 1) (by rw [List.getElem?_tail]; rw [show k - 1 + 1 = k by omega]; exact hk) h
  simp [headOK, this]
theorem headOK_bound {g : Gr} {k : Nat} {x : Int} (hk : g.bound[k]? = some x) (h : lowB x = false) : headOK g = false := by
  have : smallB g.bound = false := smallB_false hk h
  simp [headOK, this]
theorem headOK_all {g : Gr} (h1 : 1 ≤ g.parent.length ∧ g.parent.length ≤ 8 ∧ g.bound.length = g.parent.length)
    (h : ∀ (i : Nat) (p q : Int), i < g.parent.length → g.parent[i]? = some p → g.bound[i]? = some q → (i = 0 → p = -1 ∧ q = 0) ∧ (0 < i → lowB p = true ∧ lowB q = true)) : headOK g = true := by
  obtain ⟨a1, a2, a3⟩ := h1
  have e1 : g.parent[0]? = some (g.parent[0]'(by omega)) := List.getElem?_eq_getElem (by omega)
  have e2 : g.bound[0]? = some (g.bound[0]'(by omega)) := List.getElem?_eq_getElem (by omega)
  obtain ⟨z1, z2⟩ := (h 0 _ _ (by omega) e1 e2).1 rfl
  rw [z1] at e1; rw [z2] at e2
  rw [headOK_rest ⟨a1, a2, a3⟩ e1 e2, Bool.and_eq_true]
  refine ⟨all_true (n := g.parent.length - 1) (by simp) (fun i x hi hx => ?_), all_true (n := g.bound.length) rfl (fun i x hi hx => ?_)⟩
  · rw [List.getElem?_tail] at hx
    exact ((h (i + 1) x (g.bound[i + 1]'(by omega)) (by omega) hx (List.getElem?_eq_getElem (by omega))).2 (by omega)).1
  · by_cases h0 : i = 0
    · subst h0; rw [e2] at hx; injection hx with hx; subst hx; rfl
    · exact ((h i (g.parent[i]'(by omega)) x (by omega) (List.getElem?_eq_getElem (by omega)) hx).2 (by omega)).2
theorem nodeOK_eq (x : Nd) : nodeOK x = (lowB x.kind && (lowB x.scope && (decide (x.prog.length ≤ 64) && x.prog.all fun y => lowB y.op))) := by
  simp only [nodeOK, smallB, List.all_cons, List.all_nil, Bool.and_true, Bool.and_assoc]
  congr 3
  induction x.prog with
  | nil => rfl
  | cons y l ih => simp only [List.any_cons, List.all_cons, Bool.not_or, ih, insBad, badB, Bool.not_not]
theorem edBad_eq (x : Ed) : edBad x = !(lowB x.frm && (lowB x.dst && lowB x.port)) := by simp [edBad, smallB]
theorem edges_eq (l : List Ed) : (!l.any edBad) = l.all fun x => lowB x.frm && (lowB x.dst && lowB x.port) := by
  induction l with
  | nil => rfl
  | cons y l ih => simp only [List.any_cons, List.all_cons, Bool.not_or, ih, edBad_eq, Bool.not_not]
theorem beq_zero {k : Nat} (h : k ≠ 0) : ((k : Int) == 0) = false := by simp; omega

set_option maxHeartbeats 1600000 in
set_option maxRecDepth 100000 in
theorem refFits_any (s : GS) (g : Gr) (w : World) (h : GrAt w w.heap.size s g) :
    Calls Tryz.prog 19 #[s.val] w fun e w' => e = .returned (.bool (fitsB g)) ∧ Below w.heap.size w w' := by
  obtain ⟨Pa, pn, pc, Ba, bn, bc, Na, nn, nc, Ea, en, ec⟩ := s
  obtain ⟨h1, h2, h3, h4, c1, c2, c3, c4, m1, m2, m3, m4⟩ := h
  simp only at h1 h2 h3 h4 c1 c2 c3 c4 m1 m2 m3 m4
  unfold maxLen at m1 m2 m3 m4
  have HL := Lib.hid (And.intro h1.len (And.intro h2.len (And.intro h3.len h4.len)))
  unfold GS.val
  have HF : Hid (fitsB g = (headOK g && (decide (g.nodes.length ≤ 32 ∧ g.edges.length ≤ 64) && (g.nodes.all nodeOK && !g.edges.any edBad)))) := rfl
  go_enter Tryz.func19, Tryz.ntmps19
  by_cases hA : 1 ≤ pn ∧ pn ≤ 8 ∧ bn = pn ∧ nn ≤ 32 ∧ en ≤ 64
  · obtain ⟨a1, a2, rfl, a4, a5⟩ := hA
    have d1 : decide ((bn : Int) < 1) = false := by simp; omega
    have d2 : decide (8 < (bn : Int)) = false := by simp; omega
    have d3 : decide (32 < (nn : Int)) = false := by simp; omega
    have d4 : decide (64 < (en : Int)) = false := by simp; omega
    go_wp2_with fail
    clear d1 d2 d3 d4
    go_loop [3] (fun i => ∃ k : Nat, k ≤ bn ∧ i = .int .i64 k ∧ ∀ (j : Nat) (p q : Int), j < k → g.parent[j]? = some p → g.bound[j]? = some q → (j = 0 → p = -1 ∧ q = 0) ∧ (0 < j → lowB p = true ∧ lowB q = true)) (fun i => bn - (intOf i).toNat)
    case atStart => exact ⟨0, by omega, rfl, fun j p q hj => by omega⟩
    case round =>
      obtain ⟨k, hk, rfl, hall⟩ := hrel
      have HA := Lib.hid hall
      clear hall
      by_cases hlt : k < bn
      · obtain ⟨b, o, p, rfl, hb, hx, hx', hc, i1, i2⟩ := h1.at_ hlt
        obtain ⟨b', o', q, rfl, hb', hy, hy', hc', i1', i2'⟩ := h2.at_ hlt
        simp only [Rep.int, Nat.mul_one, Nat.add_zero] at hc hc'
        have HX := Lib.hid hx
        have HY := Lib.hid hy
        clear hx hx' hy hy' h1 h2 h3 h4
        by_cases h0 : k = 0
        · subst h0
          simp only [Nat.add_zero] at hc hc'
          by_cases hp : p = -1
          · subst hp
            by_cases hq : q = 0
            · subst hq
              go_wp2_with fail
              go_round
              case rel =>
                refine ⟨1, by omega, by go_num, fun j p q hj hp hq => ?_⟩
                obtain rfl : j = 0 := by omega
                rw [HX.out] at hp; rw [HY.out] at hq
                injection hp with hp; injection hq with hq
                exact ⟨fun _ => ⟨hp.symm, hq.symm⟩, fun h => by omega⟩
              case measure => simp [intOf]; omega
            · have hqB : (q != 0) = true := by simp [hq]
              go_wp2_with fail
              go_ret
              exact ⟨ret_bool (by rw [HF.out, headOK_b0 HY.out hq]; rfl), by go_grown⟩
          · have hpB : (p != -1) = true := by simp [hp]
            go_wp2_with fail
            go_ret
            exact ⟨ret_bool (by rw [HF.out, headOK_p0 HX.out hp]; rfl), by go_grown⟩
        · have e0 := beq_zero h0
          have e1 : decide (0 < (k : Int)) = true := by simp; omega
          go_wp2_with (go_at_call 37; refine (low_any _ _).mono ?_; rintro e w' ⟨rfl, rfl⟩)
          · have hp : lowB p = false := by assumption
            go_ret
            exact ⟨ret_bool (by rw [HF.out, headOK_tail (by omega) HX.out hp]; rfl), by go_grown⟩
          · have hq : (!lowB q) = true := by assumption
            go_ret
            exact ⟨ret_bool (by rw [HF.out, headOK_bound HY.out (by simpa using hq)]; rfl), by go_grown⟩
          · have hp : lowB p = true := by assumption
            have hq : (!lowB q) = false := by assumption
            go_round
            case rel =>
              refine ⟨k + 1, by omega, by go_num, fun j p' q' hj hp' hq' => ?_⟩
              by_cases hjk : j = k
              · subst hjk
                rw [HX.out] at hp'; rw [HY.out] at hq'
                injection hp' with hp'; injection hq' with hq'
                subst hp'; subst hq'
                exact ⟨fun h => absurd h h0, fun _ => ⟨hp, by simpa using hq⟩⟩
              · exact HA.out j p' q' (by omega) hp' hq'
            case measure => simp [intOf]; omega
          · exfalso; omega
      · have HO := Lib.hid (headOK_all (g := g) (by obtain ⟨l1, l2, l3, l4⟩ := HL.out; omega) (fun j p q hj hp hq => HA.out j p q (by obtain ⟨l1, l2, l3, l4⟩ := HL.out; omega) hp hq))
        have HZ := Lib.hid (decide_eq_true (show g.nodes.length ≤ 32 ∧ g.edges.length ≤ 64 by obtain ⟨l1, l2, l3, l4⟩ := HL.out; omega))
        clear HA h1 h2
        go_wp2_with fail
        go_loopw [4] (fun i wr => ∃ k : Nat, k ≤ nn ∧ i = .int .i64 k ∧ Below w.heap.size w wr ∧ w.heap.size < wr.heap.size ∧ wr.cell? ⟨w.heap.size, 2, none⟩ = some (.slice Na nn nc) ∧ wr.cell? ⟨w.heap.size, 3, none⟩ = some (.slice Ea en ec) ∧ ∀ i x, i < k → g.nodes[i]? = some x → nodeOK x = true) (fun i _ => nn - (intOf i).toNat)
        case atStart => exact ⟨0, by omega, rfl, by go_grown, by simp, by simp [go_sem], by simp [go_sem], fun i x hi => by omega⟩
        case round =>
          obtain ⟨k, hk, rfl, hbl, hsz, he2, he3, hall⟩ := hrel
          have HA := Lib.hid hall
          clear hall
          by_cases hlt : k < nn
          · obtain ⟨b, o, x, rfl, hb, hx, hx', k0, k1, k2, _, _, _, A, n, cap, k3, kn, km, hp⟩ := (h3.belows hbl (Nat.le_refl _)).at_ hlt
            simp only [Rep.node, Nat.add_zero] at k0 k1 k2 k3
            have HX := Lib.hid hx
            have HP := Lib.hid hp.len
            have HO2 := Lib.hid (nodeOK_eq x)
            have hszw := hbl.size
            unfold maxLen at km
            clear hx hx' h4
            by_cases h64 : n ≤ 64
            · have d3 : decide (64 < (n : Int)) = false := by simp; omega
              go_wp2_with (go_at_call 37; refine (low_any _ _).mono ?_; rintro e w' ⟨rfl, rfl⟩)
              · have hq : lowB x.kind = false := by assumption
                go_ret
                exact ⟨ret_bool (by rw [HF.out, all_false HX.out (by rw [HO2.out, hq]; rfl)]; simp), by go_grown⟩
              · have hq : lowB x.scope = false := by assumption
                go_ret
                exact ⟨ret_bool (by rw [HF.out, all_false HX.out (by rw [HO2.out, hq]; simp)]; simp), by go_grown⟩
              · have hq1 : lowB x.kind = true := by assumption
                have hq2 : lowB x.scope = true := by assumption
                have HQ := Lib.hid (And.intro hq1 hq2)
                rw [hq2]
                go_loop [6] (fun i => ∃ j : Nat, j ≤ n ∧ i = .int .i64 j ∧ ∀ i y, i < j → x.prog[i]? = some y → lowB y.op = true) (fun i => n - (intOf i).toNat)
                case atStart => exact ⟨0, by omega, rfl, fun i y hi => by omega⟩
                case round =>
                  obtain ⟨j, hj, rfl, hallj⟩ := hrel
                  have HAj := Lib.hid hallj
                  clear hallj hq1 hq2
                  by_cases hltj : j < n
                  · obtain ⟨b2, o2, y, rfl, hb2, hy, hy', q0, q1, _, _⟩ := hp.at_ hltj
                    simp only [Rep.ins, Nat.add_zero] at q0 q1
                    have HY := Lib.hid hy
                    have hb2' : b2 < wr.heap.size := by omega
                    clear hy hy'
                    go_wp2_with (go_at_call 37; refine (low_any _ _).mono ?_; rintro e w' ⟨rfl, rfl⟩)
                    · have hq : (!lowB y.op) = true := by assumption
                      go_ret
                      exact ⟨ret_bool (by rw [HF.out, all_false HX.out (by rw [HO2.out, all_false HY.out (by simpa using hq)]; simp)]; simp), by go_grown⟩
                    · have hq : (!lowB y.op) = false := by assumption
                      go_round
                      case rel =>
                        refine ⟨j + 1, by omega, by go_num, fun i z hi hz => ?_⟩
                        by_cases hij : i = j
                        · subst hij
                          rw [HY.out] at hz
                          injection hz with hz
                          subst hz
                          simpa using hq
                        · exact HAj.out i z (by omega) hz
                      case measure => simp [intOf]; omega
                  · go_wp2_with fail
                    go_roundw
                    case rel =>
                      refine ⟨k + 1, by omega, by go_num, by go_grown, by simp; omega, by simp [go_sem, hsz, he2], by simp [go_sem, hsz, he3], fun i y hi hy => ?_⟩
                      by_cases hik : i = k
                      · subst hik
                        rw [HX.out] at hy
                        injection hy with hy
                        subst hy
                        rw [HO2.out, HQ.out.1, HQ.out.2, all_true HP.out (fun i z hi hz => HAj.out i z (by omega) hz)]; have := HP.out; simp; omega
                      · exact HA.out i y (by omega) hy
                    case measure => simp [intOf]; omega
            · have d3 : decide (64 < (n : Int)) = true := by simp; omega
              have HQ : Hid (nodeOK x = false) := by
                show nodeOK x = false
                rw [HO2.out, decide_eq_false (show ¬ x.prog.length ≤ 64 by have := HP.out; omega)]; simp
              go_wp2_with (go_at_call 37; refine (low_any _ _).mono ?_; rintro e w' ⟨rfl, rfl⟩)
              all_goals
                go_ret
                exact ⟨ret_bool (by rw [HF.out, all_false HX.out HQ.out]; simp), by go_grown⟩
          · go_wp2_with fail
            have HN := Lib.hid (all_true (p := nodeOK) HL.out.2.2.1 (fun i x hi hx => HA.out i x (by omega) hx))
            have HE := Lib.hid (edges_eq g.edges)
            clear HA h3
            go_loopw [7] (fun i wr' => ∃ k : Nat, k ≤ en ∧ i = .int .i64 k ∧ Below w.heap.size w wr' ∧ w.heap.size < wr'.heap.size ∧ wr'.cell? ⟨w.heap.size, 3, none⟩ = some (.slice Ea en ec) ∧ ∀ i x, i < k → g.edges[i]? = some x → (lowB x.frm && (lowB x.dst && lowB x.port)) = true) (fun i _ => en - (intOf i).toNat)
            case atStart => exact ⟨0, by omega, rfl, hbl, hsz, he3, fun i x hi => by omega⟩
            case round =>
              clear he2 he3 hbl hsz
              obtain ⟨j, hj, rfl, hbl, hsz, he3, hall⟩ := hrel
              have HA := Lib.hid hall
              clear hall
              by_cases hltj : j < en
              · obtain ⟨b, o, x, rfl, hb, hx, hx', k0, k1, k2, k3, _, _, _⟩ := (h4.belows hbl (Nat.le_refl _)).at_ hltj
                simp only [Rep.edge, Nat.add_zero] at k0 k1 k2 k3
                have HX := Lib.hid hx
                have hszw := hbl.size
                clear hx hx'
                go_wp2_with (go_at_call 37; refine (low_any _ _).mono ?_; rintro e w' ⟨rfl, rfl⟩)
                · have hq : lowB x.frm = false := by assumption
                  go_ret
                  exact ⟨ret_bool (by rw [HF.out, HE.out, all_false HX.out (by rw [hq]; rfl)]; simp), by go_grown⟩
                · have hq : lowB x.dst = false := by assumption
                  go_ret
                  exact ⟨ret_bool (by rw [HF.out, HE.out, all_false HX.out (by rw [hq]; simp)]; simp), by go_grown⟩
                · have hq : (!lowB x.port) = true := by assumption
                  go_ret
                  exact ⟨ret_bool (by rw [HF.out, HE.out, all_false HX.out (by rw [show lowB x.port = false by simpa using hq]; simp)]; simp), by go_grown⟩
                · have hq1 : lowB x.frm = true := by assumption
                  have hq2 : lowB x.dst = true := by assumption
                  have hq3 : (!lowB x.port) = false := by assumption
                  go_roundw
                  case rel =>
                    refine ⟨j + 1, by omega, by go_num, by go_grown, by simp; omega, by simp [go_sem, hsz, he3], fun i y hi hy => ?_⟩
                    by_cases hij : i = j
                    · subst hij
                      rw [HX.out] at hy
                      injection hy with hy
                      subst hy
                      rw [hq1, hq2, show lowB x.port = true by simpa using hq3]; rfl
                    · exact HA.out i y (by omega) hy
                  case measure => simp [intOf]; omega
              · go_wp2_with fail
                go_ret
                exact ⟨ret_bool (by rw [HF.out, HO.out, HZ.out, HN.out, HE.out, all_true HL.out.2.2.2 (fun i x hi hx => HA.out i x (by omega) hx)]; rfl), by go_grown⟩
  · have HH : Hid (fitsB g = false) := by
      rw [HF.out]
      obtain ⟨l1, l2, l3, l4⟩ := HL.out
      by_cases hz : 1 ≤ pn ∧ pn ≤ 8 ∧ bn = pn
      · rw [decide_eq_false (show ¬ (g.nodes.length ≤ 32 ∧ g.edges.length ≤ 64) by omega)]; show (headOK g && (false && _)) = false; simp
      · rw [headOK_len (by omega)]; rfl
    clear h1 h2 h3 h4
    have hB : ((pn : Int) != (bn : Int)) = decide (pn ≠ bn) := by
      by_cases hbp : pn = bn <;> simp [hbp]; omega
    rcases (show pn < 1 ∨ (1 ≤ pn ∧ 8 < pn) ∨ (1 ≤ pn ∧ pn ≤ 8 ∧ pn ≠ bn) ∨ (1 ≤ pn ∧ pn ≤ 8 ∧ pn = bn ∧ 32 < nn) ∨ (1 ≤ pn ∧ pn ≤ 8 ∧ pn = bn ∧ nn ≤ 32 ∧ 64 < en) from by omega) with h0 | ⟨h0, h1⟩ | ⟨h0, h1, h2⟩ | ⟨h0, h1, rfl, h2⟩ | ⟨h0, h1, rfl, h2, h3⟩
    · clear hA
      go_wp2_with fail
      all_goals first | (exfalso; omega) | (go_ret; exact ⟨ret_bool HH.out.symm, by go_grown⟩)
    · clear hA hB
      go_wp2_with fail
      all_goals first | (exfalso; omega) | (go_ret; exact ⟨ret_bool HH.out.symm, by go_grown⟩)
    · have hBt : ((pn : Int) != (bn : Int)) = true := by rw [hB]; simpa using h2
      clear hA hB
      go_wp2_with fail
      all_goals first | (exfalso; omega) | (go_ret; exact ⟨ret_bool HH.out.symm, by go_grown⟩)
    · clear hA hB
      go_wp2_with fail
      all_goals first | (exfalso; omega) | (go_ret; exact ⟨ret_bool HH.out.symm, by go_grown⟩)
    · clear hA hB
      go_wp2_with fail
      all_goals first | (exfalso; omega) | (go_ret; exact ⟨ret_bool HH.out.symm, by go_grown⟩)

end Go.Proofs.YtigdaaloagecgaaGreatDoor
