/-
  graph.writer's add and sign: their walks. Conditions: numbers that are not below 0; what is put has at most a million bytes.
-/
import Derived.Test.YtigdaaloagecgaaGreatDoorWire
namespace Go.Proofs.YtigdaaloagecgaaGreatDoor
open Go.RowKit

/-- block b holds a writer with these bytes -/
def WAt (b : Nat) (l : List UInt8) (w : World) : Prop :=
  ∃ g m cap, w.heap[b]? = some (.cells #[.slice (some ⟨g, 0, none⟩) m cap] 70 (0, 0)) ∧ m = l.length ∧ g ≠ b ∧ Arr Rep.byte w w.heap.size (some ⟨g, 0, none⟩) m l
theorem WAt.lt {b : Nat} {l : List UInt8} {w : World} (h : WAt b l w) : b < w.heap.size := by
  obtain ⟨g, m, cap, hb, _⟩ := h
  rcases Nat.lt_or_ge b w.heap.size with h' | h'
  · exact h'
  · simp [Array.getElem?_eq_none h'] at hb
theorem WAt.later {b : Nat} {l : List UInt8} {w w' : World} (h : WAt b l w) (hb : Below w.heap.size w w') : WAt b l w' := by
  have hlt := h.lt
  obtain ⟨g, m, cap, hbk, hm, hne, hr⟩ := h
  exact ⟨g, m, cap, (hb.block b hlt).trans hbk, hm, hne, (hr.below hb).more hb.size⟩

theorem uv_pos (v : Nat) : 0 < (uv v).length := by rw [uv]; split <;> simp
/-- numbers in pieces -/
def uvs (l : List Int) : List UInt8 := l.flatMap fun n => uv n.toNat
theorem uvs_take {l : List Int} {k : Nat} {x : Int} (h : l[k]? = some x) : uvs (l.take (k + 1)) = uvs (l.take k) ++ uv x.toNat := by
  have hk : k < l.length := (List.getElem?_eq_some_iff.1 h).1
  rw [List.take_succ_eq_append_getElem hk]
  have : l[k] = x := by rw [List.getElem?_eq_getElem hk] at h; injection h
  simp [uvs, this]
theorem uvs_len (l : List Int) (h : ∀ (i : Nat) (x : Int), l[i]? = some x → x ≤ 9223372036854775807) : (uvs l).length ≤ 11 * l.length := by
  induction l with
  | nil => simp [uvs]
  | cons x l ih =>
    have h1 := ih fun i y hy => h (i + 1) y (by simpa using hy)
    have h2 := h 0 x rfl
    have h3 := uv_len64 x.toNat (by omega)
    simp only [uvs, List.flatMap_cons, List.length_append, List.length_cons] at h1 ⊢
    omega

theorem grown_trans {a b c : World} {row : Option Nat} (h : a.grownBy b row) (k : b.grownBy c row) : a.grownBy c row :=
  ⟨k.os.trans h.os, k.tape.trans h.tape, k.output.trans h.output, Nat.le_trans h.size k.size, fun i hi hne => (k.block i (Nat.lt_of_lt_of_le hi h.size) hne).trans (h.block i hi hne)⟩
theorem grown_of_below {a w : World} (h : Below a.heap.size a w) (row : Option Nat) : a.grownBy w row := ⟨h.os, h.tape, h.output, h.size, fun i hi _ => h.block i hi⟩
theorem grown_set (w : World) {p : Addr} {b : Nat} (hp : p.block = b) (u : Value) : w.grownBy (w.setCell p u) (some b) :=
  ⟨rfl, rfl, rfl, by simp [World.setCell], fun i _ hne => Below.heap_setCell w p u i (by rintro rfl; exact hne (by rw [hp]))⟩

/-- the new bytes' block is not the writer's -/
theorem wput_ne {b g g1 m m1 cap : Nat} {l : List UInt8} {w1 : World} (hbk1 : w1.heap[b]? = some (.cells #[.slice (some ⟨g, 0, none⟩) m cap] 70 (0, 0))) (hp : 0 < l.length) (hm1 : m1 = l.length) (hr1 : Arr Rep.byte w1 w1.heap.size (some ⟨g1, 0, none⟩) m1 l) : g1 ≠ b := by
  rintro rfl
  have d0 : w1.cell? ⟨g1, 0, none⟩ = some (.slice (some ⟨g, 0, none⟩) m cap) := by rw [Lib.cell_of_heap hbk1]; rfl
  have h2 := hr1.2 (by omega)
  obtain ⟨b', o', e', hb', hr'⟩ := h2
  injection e' with e'; injection e' with e1 e2; subst e1; subst e2
  have h3 := hr' 0 _ (List.getElem?_eq_getElem hp)
  simp only [Rep.byte] at h3
  simp only [Nat.zero_mul, Nat.add_zero] at h3
  rw [d0] at h3
  cases h3
theorem wput {b g g1 m m1 cap cap1 : Nat} {l : List UInt8} {w1 : World} (hbk1 : w1.heap[b]? = some (.cells #[.slice (some ⟨g, 0, none⟩) m cap] 70 (0, 0))) (hp : 0 < l.length) (hm1 : m1 = l.length) (hr1 : Arr Rep.byte w1 w1.heap.size (some ⟨g1, 0, none⟩) m1 l) :
    WAt b l (w1.setCell ⟨b, 0, none⟩ (.slice (some ⟨g1, 0, none⟩) m1 cap1)) := by
  have hg1 := wput_ne hbk1 hp hm1 hr1
  refine ⟨g1, m1, cap1, ?_, hm1, hg1, ?_⟩
  · simp [World.setCell, Array.getElem?_modify, hbk1]
  · refine ⟨hr1.1, fun hn => ?_⟩
    obtain ⟨b', o', e', hb', hr'⟩ := hr1.2 hn
    injection e' with e'; injection e' with e1 e2; subst e1; subst e2
    refine ⟨g1, 0, rfl, by simpa [World.setCell] using hb', fun i x hx => ?_⟩
    have h6 := hr' i x hx
    simp only [Rep.byte] at h6 ⊢
    rw [World.cell?_setCell_other _ _ _ _ (fun e => hg1 (congrArg Addr.block e).symm)]
    exact h6

set_option maxHeartbeats 1000000 in
theorem wadd_any (b : Nat) (bytes : List UInt8) (A : Option Addr) (n c : Nat) (l : List Int) (w : World) (h : WAt b bytes w) (hl : Arr Rep.int w w.heap.size A n l)
    (hb : ∀ (p : Addr), A = some p → p.block ≠ b) (h0 : ∀ (i : Nat) (x : Int), l[i]? = some x → 0 ≤ x) (hlen : bytes.length + 11 * n < 900000) :
    Calls Tryz.prog 28 #[.pointer (some ⟨b, 0, none⟩), .slice A n c] w fun e w' => e = .returned (.tuple #[]) ∧ WAt b (bytes ++ uvs l) w' ∧ w.grownBy w' (some b) := by
  have HL := Lib.hid hl.len
  go_enter Tryz.func28, Tryz.ntmps28
  go_wp2_with fail
  go_loopw [8] (fun i wr => ∃ k : Nat, k ≤ n ∧ i = .int .i64 k ∧ WAt b (bytes ++ uvs (l.take k)) wr ∧ w.grownBy wr (some b)) (fun i _ => n - (intOf i).toNat)
  case atStart => exact ⟨0, by omega, rfl, by simpa [uvs] using h, World.grownBy.refl w _⟩
  case round =>
    obtain ⟨k, hk, rfl, hw, hg⟩ := hrel
    by_cases hlt : k < n
    · obtain ⟨a, o, x, rfl, ha, hx, hx', hc, i1, i2⟩ := hl.at_ hlt
      simp only [Rep.int, Nat.mul_one, Nat.add_zero] at hc
      have hne := hb _ rfl
      simp only at hne
      have hc2 : wr.cell? ⟨a, o + k, none⟩ = some (.int .i64 x) := (World.cell?_of_block (w := w) (a := ⟨a, o + k, none⟩) (hg.block a ha (by simpa using hne))).trans hc
      have hx0 := h0 k x hx
      have HX := Lib.hid (And.intro hx (And.intro hx0 i2))
      have HW := Lib.hid hw
      obtain ⟨g, m, cap, hbk, hm, hgb, hr⟩ := hw
      have q0 : wr.cell? ⟨b, 0, none⟩ = some (.slice (some ⟨g, 0, none⟩) m cap) := by rw [Lib.cell_of_heap hbk]; rfl
      have HQ := Lib.hid (And.intro hbk (And.intro hm (And.intro hgb hr)))
      have hml : m < 1000000 := by
        have h1 := uvs_len (l.take k) (fun i y hy => by
          rw [List.getElem?_take] at hy; split at hy
          · obtain ⟨b', o', e', hb', hr'⟩ := hl.2 (by omega)
            exact (hr' i y hy).2.2
          · cases hy)
        simp only [List.length_take, List.length_append] at h1 hm
        omega
      clear hx hx' h hc hbk hm hgb hr
      have HI := Lib.hid (And.intro hx0 i2)
      clear i1 i2
      obtain ⟨v, rfl⟩ := Int.eq_ofNat_of_zero_le hx0
      go_wp2_with fail
      rw [show IntKind.u64.wrap (v : Int) = (v : Int) by rw [IntKind.wrap_u64]; have := HI.out.2; omega]
      refine (wireUint_any g 0 m cap (bytes ++ uvs (l.take k)) v wr HQ.out.2.2.2 hml (by show v < 18446744073709551616; have := HI.out.2; omega)).mono ?_
      rintro e w1 ⟨g1, m1, cap1, rfl, hm1, hr1, hb1⟩
      have hblt := HW.out.lt
      have hbk1 : w1.heap[b]? = some (.cells #[.slice (some ⟨g, 0, none⟩) m cap] 70 (0, 0)) := (hb1.block b hblt).trans HQ.out.1
      have d0 : w1.cell? ⟨b, 0, none⟩ = some (.slice (some ⟨g, 0, none⟩) m cap) := by rw [Lib.cell_of_heap hbk1]; rfl
      have f0 : w1.frozen? ⟨b, 0, none⟩ = false := Lib.frozen_of_heap hbk1 0
      have HT := Lib.hid (wput (cap1 := cap1) hbk1 (by rw [List.length_append]; have := uv_pos v; omega) hm1 hr1)
      have HE := Lib.hid (uvs_take HX.out.1)
      have HB := Lib.hid (And.intro hbk1 hb1)
      clear hm1 hr1 hbk1 hb1
      go_wp2_with fail
      go_roundw
      case rel =>
        refine ⟨k + 1, by omega, by go_num, ?_, ?_⟩
        · rw [HE.out, ← List.append_assoc]
          exact HT.out
        · exact grown_trans (grown_trans hg (grown_of_below HB.out.2 _)) (grown_set w1 rfl _)
      case measure => simp [intOf]; omega
    · go_wp2_with fail
      go_end0
      have hkn : k = n := by omega
      subst hkn
      rw [List.take_of_length_le (by have := HL.out; omega)] at hw
      exact ⟨rfl, hw, hg⟩

set_option maxHeartbeats 1000000 in
theorem wsign_any (b : Nat) (bytes : List UInt8) (v : Int) (w : World) (h : WAt b bytes w) (hlen : bytes.length < 900000) :
    Calls Tryz.prog 29 #[.pointer (some ⟨b, 0, none⟩), .int .i64 v] w fun e w' => e = .returned (.tuple #[]) ∧ WAt b (bytes ++ uv (zz v)) w' ∧ w.grownBy w' (some b) := by
  have hblt := h.lt
  obtain ⟨g, m, cap, hbk, hm, hgb, hr⟩ := h
  have q0 : w.cell? ⟨b, 0, none⟩ = some (.slice (some ⟨g, 0, none⟩) m cap) := by rw [Lib.cell_of_heap hbk]; rfl
  have HQ := Lib.hid (And.intro hbk (And.intro hm (And.intro hgb hr)))
  clear hbk hm hgb hr
  go_enter Tryz.func29, Tryz.ntmps29
  go_wp2_with fail
  refine (wireInt_any g 0 m cap bytes v w HQ.out.2.2.2 (by have := HQ.out.2.1; omega)).mono ?_
  rintro e w1 ⟨g1, m1, cap1, rfl, hm1, hr1, hb1⟩
  have hbk1 : w1.heap[b]? = some (.cells #[.slice (some ⟨g, 0, none⟩) m cap] 70 (0, 0)) := (hb1.block b hblt).trans HQ.out.1
  have d0 : w1.cell? ⟨b, 0, none⟩ = some (.slice (some ⟨g, 0, none⟩) m cap) := by rw [Lib.cell_of_heap hbk1]; rfl
  have f0 : w1.frozen? ⟨b, 0, none⟩ = false := Lib.frozen_of_heap hbk1 0
  have HT := Lib.hid (wput (cap1 := cap1) hbk1 (by rw [List.length_append]; have := uv_pos (zz v); omega) hm1 hr1)
  have HB := Lib.hid hb1
  clear hm1 hr1 hbk1 hb1
  go_wp2_with fail
  go_end0
  exact ⟨rfl, HT.out, grown_trans (grown_of_below HB.out _) (grown_set w1 rfl _)⟩

end Go.Proofs.YtigdaaloagecgaaGreatDoor
