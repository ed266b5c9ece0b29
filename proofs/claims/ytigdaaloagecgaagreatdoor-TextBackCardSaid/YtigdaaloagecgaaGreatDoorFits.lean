/-
  graph.fits: its walk. No condition.
-/
import Derived.Test.YtigdaaloagecgaaGreatDoorSmall2
namespace Go.Proofs.YtigdaaloagecgaaGreatDoor
open Go.RowKit

def nodeOK (x : Nd) : Bool := smallB [x.kind, x.scope] && (decide (x.prog.length ≤ 64) && !x.prog.any insBad)
def headOK (g : Gr) : Bool := decide (1 ≤ g.parent.length ∧ g.parent.length ≤ 8 ∧ g.bound.length = g.parent.length) && (decide (g.parent[0]? = some (-1)) && (decide (g.bound[0]? = some 0) && (smallB g.parent.tail && smallB g.bound)))
/-- graph.fits -/
def fitsB (g : Gr) : Bool := headOK g && (decide (g.nodes.length ≤ 32 ∧ g.edges.length ≤ 64) && (g.nodes.all nodeOK && !g.edges.any edBad))

theorem headOK_len {g : Gr} (h : ¬ (1 ≤ g.parent.length ∧ g.parent.length ≤ 8 ∧ g.bound.length = g.parent.length)) : headOK g = false := by
  simp only [headOK, decide_eq_false h, Bool.false_and]
theorem headOK_p0 {g : Gr} {p : Int} (h : g.parent[0]? = some p) (hp : ¬ p = -1) : headOK g = false := by
  simp [headOK, h, hp]
theorem headOK_b0 {g : Gr} {p : Int} (h : g.bound[0]? = some p) (hp : ¬ p = 0) : headOK g = false := by
  simp [headOK, h, hp]
theorem headOK_rest {g : Gr} (h1 : 1 ≤ g.parent.length ∧ g.parent.length ≤ 8 ∧ g.bound.length = g.parent.length) (h2 : g.parent[0]? = some (-1)) (h3 : g.bound[0]? = some 0) : headOK g = (smallB g.parent.tail && smallB g.bound) := by
  simp [headOK, h1, h2, h3]

theorem Tryz.info3 : (Tryz.prog.info? 3).map (fun i => (i.zero, i.size, i.bytes)) = some (some (.int .i64 0), 1, 8) := by kernel_rfl
theorem small_cut {A : Option Addr} {n cap : Nat} {l : List Int} {w : World} (h : Arr Rep.int w w.heap.size A n l) (hn : cap ≤ maxLen) (h1 : 1 ≤ n) (h2 : n ≤ cap) :
    Calls Tryz.prog 45 #[.slice (cutA A cap 1 1) (n - 1) (cap - 1)] w fun e w' => e = .returned (.bool (smallB l.tail)) ∧ w = w' := by
  refine small_any _ _ _ l.tail w ?_ (by omega)
  have := h.cut (lo := 1) h1 h2
  simpa [Rep.int] using this

theorem all_false {α : Type} {p : α → Bool} {l : List α} {k : Nat} {x : α} (hk : l[k]? = some x) (h : p x = false) : l.all p = false := by
  rw [List.all_eq_false]
  exact ⟨x, List.mem_of_getElem? hk, by simp [h]⟩
theorem all_true {α : Type} {p : α → Bool} {l : List α} {n : Nat} (hn : l.length = n) (h : ∀ i x, i < n → l[i]? = some x → p x = true) : l.all p = true := by
  rw [List.all_eq_true]
  intro x hx
  obtain ⟨i, hi, rfl⟩ := List.getElem_of_mem hx
  exact h i _ (by omega) (List.getElem?_eq_getElem hi)

set_option maxHeartbeats 1600000 in
set_option maxRecDepth 100000 in
theorem fits_any (s : GS) (g : Gr) (w : World) (h : GrAt w w.heap.size s g) :
    Calls Tryz.prog 27 #[s.val] w fun e w' => e = .returned (.bool (fitsB g)) ∧ Below w.heap.size w w' := by
  obtain ⟨Pa, pn, pc, Ba, bn, bc, Na, nn, nc, Ea, en, ec⟩ := s
  obtain ⟨h1, h2, h3, h4, c1, c2, c3, c4, m1, m2, m3, m4⟩ := h
  simp only at h1 h2 h3 h4 c1 c2 c3 c4 m1 m2 m3 m4
  have M := Lib.hid (And.intro m1 (And.intro m2 (And.intro m3 m4)))
  unfold maxLen at m1 m2 m3 m4
  have HL := Lib.hid (And.intro h1.len (And.intro h2.len (And.intro h3.len h4.len)))
  unfold GS.val
  go_enter Tryz.func27, Tryz.ntmps27
  go_upto_region 2 with fail
  go_cut [48] (fun c wx => c = .bool (!headOK g) ∧ wx = w.alloc (.cells #[.slice Pa pn pc, .slice Ba bn bc, .slice Na nn nc, .slice Ea en ec] 26))
  case first =>
    obtain ⟨l1, l2, l3, l4⟩ := HL.out
    by_cases hA : 1 ≤ pn ∧ pn ≤ 8 ∧ bn = pn
    · obtain ⟨a1, a2, rfl⟩ := hA
      obtain ⟨b, o, p0, rfl, hb, hx, hx', hc, i1, i2⟩ := h1.at_ (k := 0) a1
      obtain ⟨b', o', q0, rfl, hb', hy, hy', hc', i1', i2'⟩ := h2.at_ (k := 0) a1
      simp only [Rep.int, Nat.zero_mul, Nat.add_zero] at hc hc'
      have HX := Lib.hid hx
      have HY := Lib.hid hy
      clear hx hx' hy hy' l1 l2 l3 l4
      by_cases hp : p0 = -1
      · subst hp
        by_cases hq : q0 = 0
        · subst hq
          have HH := Lib.hid (headOK_rest (g := g) (by obtain ⟨l1, l2, l3, l4⟩ := HL.out; omega) HX.out HY.out)
          obtain ⟨i0, hi, hz0, hz1, hz2⟩ := info_parts Tryz.info3
          have hcut := fun W : World => run_cut (P := Tryz.prog) 22 3 i0 Tryz.underlying22 hi 1 hz1 (some ⟨b, o, none⟩) bn pc 1 a1 W
          have K1 := fun (ob : Obj) => small_cut (w := w.alloc ob) ((h1.keep (Same.alloc (Nat.le_refl _) ob)).more (by simp)) (by unfold maxLen; omega) a1 c1
          have K2 := fun (ob : Obj) => small_any (some ⟨b', o', none⟩) bn bc g.bound (w.alloc ob) ((h2.keep (Same.alloc (Nat.le_refl _) ob)).more (by simp)) (by unfold maxLen; omega)
          generalize smallB g.parent.tail = t1 at HH K1
          generalize smallB g.bound = t2 at HH K2
          have H1 := Lib.hid K1
          have H2 := Lib.hid K2
          clear K1 K2
          generalize cutA (some ⟨b, o, none⟩) pc 1 1 = A1 at hcut H1
          simp only [Int.ofNat_one] at hcut
          go_wp2_with (first | (go_at_call 45; (with_reducible refine (H2.out _).mono ?_); rintro e w' ⟨rfl, rfl⟩) | (go_at_call 45; (with_reducible refine (H1.out _).mono ?_); rintro e w' ⟨rfl, rfl⟩))
          all_goals
            go_meet
            refine ⟨?_, rfl⟩
            rw [HH.out]
            first | (have h : t1 = false := by assumption); rw [h]; rfl | (have h : t1 = true := by assumption); rw [h]; rfl
        · have hqB : (q0 != 0) = true := by simp [hq]
          have HH := Lib.hid (headOK_b0 HY.out hq)
          go_wp2
          all_goals (go_meet; exact ⟨by rw [HH.out]; rfl, rfl⟩)
      · have hpB : (p0 != -1) = true := by simp [hp]
        have HH := Lib.hid (headOK_p0 HX.out hp)
        go_wp2
        all_goals (go_meet; exact ⟨by rw [HH.out]; rfl, rfl⟩)
    · have HH := Lib.hid (headOK_len (g := g) (by omega))
      clear l1 l2 l3 l4 h1 h2 h3 h4
      have hB : ((bn : Int) != (pn : Int)) = decide (bn ≠ pn) := by
        by_cases hbp : bn = pn
        · simp [hbp]
        · simp [hbp]; omega
      by_cases h8 : 1 ≤ pn ∧ pn ≤ 8
      · have hBt : ((bn : Int) != (pn : Int)) = true := by rw [hB]; simp; omega
        clear hB
        go_wp2
        all_goals (go_meet; exact ⟨by rw [HH.out]; rfl, rfl⟩)
      · clear hB
        rcases (show pn < 1 ∨ (1 ≤ pn ∧ 8 < pn) from by omega) with h0 | ⟨h0, h0'⟩
        · clear hA h8
          go_wp2
          all_goals first | (exfalso; omega) | (go_meet; exact ⟨by rw [HH.out]; rfl, rfl⟩)
        · clear hA h8
          go_wp2
          all_goals first | (exfalso; omega) | (go_meet; exact ⟨by rw [HH.out]; rfl, rfl⟩)
  case rest =>
    obtain ⟨rfl, rfl⟩ := hcut
    have HF : Hid (fitsB g = (headOK g && (decide (g.nodes.length ≤ 32 ∧ g.edges.length ≤ 64) && (g.nodes.all nodeOK && !g.edges.any edBad)))) := rfl
    generalize headOK g = hd at HF
    cases hd with
    | false =>
      simp only [Bool.not_false]
      go_wp2
      go_ret
      exact ⟨ret_bool (by rw [HF.out]; rfl), by go_grown⟩
    | true =>
      simp only [Bool.not_true]
      by_cases hA : nn ≤ 32 ∧ en ≤ 64
      · obtain ⟨a1, a2⟩ := hA
        have d1 : decide (32 < (nn : Int)) = false := by simp; omega
        have d2 : decide (64 < (en : Int)) = false := by simp; omega
        go_wp2
        go_loopw [62] (fun i wr => ∃ k : Nat, k ≤ nn ∧ i = .int .i64 k ∧ Below w.heap.size w wr ∧ w.heap.size < wr.heap.size ∧ wr.cell? ⟨w.heap.size, 3, none⟩ = some (.slice Ea en ec) ∧ ∀ i x, i < k → g.nodes[i]? = some x → nodeOK x = true) (fun i _ => nn - (intOf i).toNat)
        case atStart => exact ⟨0, by omega, rfl, by go_grown, by simp, by simp [go_sem], fun i x hi => by omega⟩
        case round =>
          obtain ⟨k, hk, rfl, hbl, hsz, he3, hall⟩ := hrel
          have HA := Lib.hid hall
          clear hall
          by_cases hlt : k < nn
          · obtain ⟨b, o, x, rfl, hb, hx, hx', k0, k1, k2, ⟨i0, i0'⟩, ⟨i1, i1'⟩, _, A, n, cap, k3, kn, km, hp⟩ := (h3.belows hbl (Nat.le_refl _)).at_ hlt
            simp only [Rep.node, Nat.add_zero] at k0 k1 k2 k3
            have HX := Lib.hid hx
            have HP := Lib.hid hp.len
            clear hx hx' h1 h2
            have HB := Lib.hid (And.intro h3 h4)
            clear h3 h4
            have HO : Hid (nodeOK x = (smallB [x.kind, x.scope] && (decide (x.prog.length ≤ 64) && !x.prog.any insBad))) := rfl
            go_wp2_with fail
            refine (small_any _ _ _ [x.kind, x.scope] _ (arr_ints (by simp) rfl (fun i y hi => ?_)) (by simp [maxLen])).mono ?_
            · match i, hi with
              | 0, hi => simp at hi; subst hi; exact ⟨rfl, i0, i0'⟩
              | 1, hi => simp at hi; subst hi; exact ⟨rfl, i1, i1'⟩
            rintro e w' ⟨rfl, rfl⟩
            generalize smallB [x.kind, x.scope] = t1 at HO
            cases t1 with
            | false =>
              go_wp2
              go_ret
              exact ⟨ret_bool (by rw [HF.out, all_false HX.out (by rw [HO.out]; rfl)]; simp), by go_grown⟩
            | true =>
              by_cases h64 : n ≤ 64
              · have d3 : decide (64 < (n : Int)) = false := by simp; omega
                go_wp2_with fail
                refine (containsIns A n cap x.prog _ ((hp.keep ((Same.alloc hbl.size _).trans (Same.alloc (by simp; exact Nat.le_succ_of_le hbl.size) _))).more (by simp; have := hbl.size; omega)) (by unfold maxLen at *; omega)).mono ?_
                rintro e w' ⟨rfl, hb1⟩
                have hbA := (((Below.refl wr.heap.size wr).alloc (Nat.le_refl _) _).alloc (by simp) _).trans (hb1.mono (by simp; omega))
                have hsA : wr.heap.size ≤ w'.heap.size := hbA.size
                clear hb1
                have HbA := Lib.hid hbA
                clear hbA
                generalize x.prog.any insBad = t2 at HO
                cases t2 with
                | false =>
                  go_wp2
                  go_roundw
                  case rel =>
                    refine ⟨k + 1, by omega, by go_num, hbl.trans (HbA.out.mono hbl.size), by omega, (HbA.out.cell (p := ⟨w.heap.size, 3, none⟩) hsz).trans he3, fun i y hi hy => ?_⟩
                    by_cases hik : i = k
                    · subst hik
                      rw [HX.out] at hy
                      injection hy with hy
                      subst hy
                      rw [HO.out]; have := HP.out; simp; omega
                    · exact HA.out i y (by omega) hy
                  case measure => simp [intOf]; omega
                | true =>
                  go_wp2
                  go_ret
                  exact ⟨ret_bool (by rw [HF.out, all_false HX.out (by rw [HO.out]; simp)]; simp), hbl.trans (HbA.out.mono hbl.size)⟩
              · have d3 : decide (64 < (n : Int)) = true := by simp; omega
                go_wp2
                go_ret
                exact ⟨ret_bool (by rw [HF.out, all_false HX.out (by rw [HO.out]; have := HP.out; simp; omega)]; simp), by go_grown⟩
          · go_wp2_with fail
            have h4' := h4.belows hbl (Nat.le_refl _)
            refine (containsEd Ea en ec g.edges _ (h4'.more hbl.size) (by unfold maxLen; omega)).mono ?_
            rintro e w' ⟨rfl, hb1⟩
            have HE := Lib.hid (And.intro (all_true (p := nodeOK) HL.out.2.2.1 (fun i x hi hx => HA.out i x (by omega) hx)) (decide_eq_true (show g.nodes.length ≤ 32 ∧ g.edges.length ≤ 64 by obtain ⟨l1, l2, l3, l4⟩ := HL.out; omega)))
            generalize g.edges.any edBad = t3 at HF
            go_wp2
            go_ret
            exact ⟨ret_bool (by rw [HF.out, HE.out.1, HE.out.2]; simp), hbl.trans (hb1.mono hbl.size)⟩
      · have HH := Lib.hid (decide_eq_false (show ¬ (g.nodes.length ≤ 32 ∧ g.edges.length ≤ 64) by obtain ⟨l1, l2, l3, l4⟩ := HL.out; omega))
        go_wp2
        all_goals
          go_ret
          exact ⟨ret_bool (by rw [HF.out, HH.out]; rfl), by go_grown⟩

end Go.Proofs.YtigdaaloagecgaaGreatDoor
