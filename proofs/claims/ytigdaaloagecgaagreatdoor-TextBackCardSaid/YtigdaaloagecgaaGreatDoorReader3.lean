/-
  text.reader's small: its walk. Condition: the library's variables hold what its text lays.
-/
import Derived.Test.YtigdaaloagecgaaGreatDoorReader2
import Derived.RegionTactic
import Derived.OwnWalk
namespace Go.Proofs.YtigdaaloagecgaaGreatDoor
open Go.RowKit

/-- an owned row of ints, as it is read -/
theorem own_ints {w : World} {base n : Nat} {e : TypeId} {v : Value} {l : List Int} (h : w.ownsRow base e 1 v n (l.map (Value.int .i64))) (hl : ∀ x ∈ l, I64 x) :
    ∃ A c, v = .slice A n c ∧ n ≤ c ∧ c ≤ maxLen ∧ Arr Rep.int w w.heap.size A n l := by
  have hlen : l.length = n := by have := h.1; simpa using this
  rcases h.2 with ⟨hv, hn⟩ | ⟨g, cap, cur, hv, hbg, hg, hnc, hcm, hsz, htk⟩
  · subst hn
    exact ⟨none, 0, hv, Nat.le_refl _, Nat.zero_le _, hlen, fun h0 => absurd h0 (by omega)⟩
  · refine ⟨some ⟨g, 0, none⟩, cap, hv, hnc, hcm, hlen, fun _ => ⟨g, 0, rfl, heap_lt hg, fun i x hi => ?_⟩⟩
    have hin : i < n := by have := (List.getElem?_eq_some_iff.1 hi).1; omega
    have h1 : (l.map (Value.int .i64))[i]? = some (.int .i64 x) := by simp [hi]
    rw [← htk, List.getElem?_take, if_pos (by omega)] at h1
    simp only [Rep.int, Nat.mul_one, Nat.add_zero, Nat.zero_add]
    have hx := hl x (List.mem_of_getElem? hi)
    refine ⟨?_, hx.1, hx.2⟩
    rw [Lib.cell_of_heap hg]
    simpa using h1

theorem Libs.grown {w w' : World} {b : Nat} (h : Libs w) (hg : w.grownBy w' (some b)) (hb : 10 ≤ b) : Libs w' := by
  have hs := h.size
  obtain ⟨h1, h2, ⟨m, h3⟩, ⟨a, c, h4⟩, ⟨d, f, h5⟩⟩ := h
  have hB : Below 10 w w' := ⟨hg.os, hg.tape, hg.output, hg.size, fun i hi => hg.block i (by omega) (by intro e; injection e with e; omega)⟩
  exact ⟨var?_below hB gPow (by omega) h1, var?_below hB gSp (by omega) h2, ⟨m, (hB.cell (by simp)).trans h3⟩, ⟨a, c, (hB.cell (by simp)).trans h4⟩, ⟨d, f, (hB.cell (by simp)).trans h5⟩⟩

/-- what is put of a small number's word -/
def clampI (x : Int) : Int := max (-1) (min x 2147483648)
theorem clampI_i64 (x : Int) : I64 (clampI x) := by unfold clampI I64; omega
def numV (x : List UInt8) : Int := (numOf x).getD 0
def noNum (x : List UInt8) : Bool := decide (numOf x = none)
def smallE (e : Int) (l : List (List UInt8)) : Int := if l.any noNum = true then orE e 4 else e
theorem smallE_step {e : Int} {l : List (List UInt8)} {k : Nat} {x : List UInt8} (h : l[k]? = some x) : (if numOf x = none then orE (smallE e (l.take k)) 4 else smallE e (l.take k)) = smallE e (l.take (k + 1)) := by
  unfold smallE
  rw [any_take noNum h]
  by_cases h1 : (l.take k).any noNum = true <;> by_cases h2 : numOf x = none <;> simp [h1, h2, noNum, orE] <;> (try split) <;> (try rfl) <;> (try omega)

set_option maxHeartbeats 1600000 in
set_option maxRecDepth 100000 in
theorem rsmall_any (b : Nat) (v : Value × Value × Value × Value) (e : Int) (A : Option Addr) (n c : Nat) (xs : List (List UInt8)) (w : World) (h : RB b v e w) (L : Libs w) (hb : 10 ≤ b) (hl : Arr Rep.str w w.heap.size A n xs)
    (hA : ∀ p : Addr, A = some p → p.block ≠ b) (hx : ∀ x ∈ xs, x.length ≤ 1000000) (hn : n ≤ 1000) :
    Calls Tryz.prog 59 #[.pointer (some ⟨b, 0, none⟩), .slice A n c] w fun r w' => ∃ A' c', r = .returned (.slice A' n c') ∧ n ≤ c' ∧ c' ≤ maxLen ∧ Arr Rep.int w' w'.heap.size A' n (xs.map fun x => clampI (numV x)) ∧ (∀ p : Addr, A' = some p → w.heap.size ≤ p.block) ∧ RB b v (smallE e xs) w' ∧ w.grownBy w' (some b) := by
  have HL := Lib.hid hl.len
  have hbw := heap_lt h
  have HLib := Lib.hid L
  obtain ⟨i0, hi, hz0, hz1, hz2⟩ := info_parts Tryz.info3
  have HR := Lib.hid h
  have HX := Lib.hid hx
  clear h L hx
  go_enter Tryz.func59, Tryz.ntmps59
  go_wp2_with fail
  go_loopw [5, 11] (fun vo i wr => ∃ k : Nat, k ≤ n ∧ i = .int .i64 k ∧ Hid (RB b v (smallE e (xs.take k)) wr ∧ w.grownBy wr (some b)) ∧ w.heap.size ≤ wr.heap.size ∧ wr.ownsRow w.heap.size 3 1 vo k ((((xs.take k).map fun x => clampI (numV x))).map (Value.int .i64))) (fun _ i _ => n - (intOf i).toNat)
  case atStart => exact ⟨0, by omega, rfl, ⟨HR.out, World.grownBy.refl w _⟩, Nat.le_refl _, by simpa using World.ownsRow_nil w _ _ _⟩
  case round =>
    obtain ⟨k, hk, rfl, HG, hsz, hown⟩ := hrel
    have HO := Lib.hid hown
    clear hown
    by_cases hlt : k < n
    · obtain ⟨a, o, x, rfl, ha, hxk, hx', hc, hxl⟩ := hl.at_ hlt
      simp only [Rep.str, Nat.mul_one, Nat.add_zero] at hc
      have hne := hA _ rfl
      simp only at hne
      have hc2 : wr.cell? ⟨a, o + k, none⟩ = some (.string (bs x)) := (World.cell?_of_block (w := w) (a := ⟨a, o + k, none⟩) (HG.out.2.block a ha (by simpa using hne))).trans hc
      have HXK := Lib.hid hxk
      have HN := Lib.hid (rnumber_any b v (smallE e (xs.take k)) x wr HG.out.1 (HLib.out.grown HG.out.2 hb) (HX.out x (List.mem_of_getElem? hxk)))
      clear hxk hx' hxl hc hl hA
      have hnv : (numOf x).getD 0 = numV x := rfl
      rw [hnv] at HN
      generalize hq : numV x = q at HN
      go_wp2_with fail
      refine HN.out.mono ?_
      rintro r w2 ⟨rfl, hr2, hg2⟩
      have hown := HO.out.kept hg2 (.inr (by intro he; have := HO.out.lt _ he; omega))
      have hs2 := hg2.size
      have HG2 := Lib.hid (And.intro hr2 hg2)
      clear hr2 hg2
      go_wp2_with (at_builtin; refine wpList_append_own _ rfl _ _ 22 rfl w.heap.size 3 i0 (.int .i64 0) 1 8 Tryz.underlying22 hi hz0 hz1 hz2 rfl (by omega) _ k _ rfl (hown.alloc _) _ 1 1 [.int .i64 (clampI q)] rfl rfl ?hnews ?h1 ?h63 ?hbytes ?hbase ?_)
      case hnews =>
        intro j u hj
        match j, hj with
        | 0, hj => simp at hj; subst hj; simp [Addr.add, clampI]
      case h1 => intro u hu; simp at hu; subst hu; rfl
      case h63 => unfold maxLen; omega
      case hbytes => omega
      case hbase => simp; omega
      intro v2 w3 hown2 hgrow _
      have hbk : u5.ownBlock ≠ some b := by intro he; have := hown.lt _ he; omega
      have hRB3 : RB b v (smallE e (xs.take (k + 1))) w3 := by
        rw [← smallE_step HXK.out]
        exact (hgrow.block b (by have := heap_lt HG2.out.1; simp; omega) (fun e => hbk e.symm)).trans (HG2.out.1.later ((Below.refl _ _).alloc (Nat.le_refl _) _))
      have hG3 : w.grownBy w3 (some b) := by
        have g1 := HG.out.2
        have g2 := HG2.out.2
        refine ⟨hgrow.os.trans (g2.os.trans g1.os), hgrow.tape.trans (g2.tape.trans g1.tape), hgrow.output.trans (g2.output.trans g1.output), Nat.le_trans (Nat.le_trans (Nat.le_trans g1.size g2.size) (by simp)) hgrow.size, fun i hiw hib => ?_⟩
        have h5 : some i ≠ u5.ownBlock := fun e => by have := hown.lt i e.symm; omega
        have i1 : i < wr.heap.size := by omega
        have i2 : i < w2.heap.size := by omega
        rw [hgrow.block i (by simp; omega) h5, ((Below.refl w2.heap.size w2).alloc (Nat.le_refl _) _).block i i2, g2.block i i1 hib, g1.block i hiw hib]
      have hs3 : w.heap.size ≤ w3.heap.size := hG3.size
      have HZ := Lib.hid (And.intro hRB3 hG3)
      have hcell : (((xs.take (k + 1)).map fun x => clampI (numV x)).map (Value.int .i64)) = ((xs.take k).map fun x => clampI (numV x)).map (Value.int .i64) ++ [.int .i64 (clampI q)] := by
        have hkl := (List.getElem?_eq_some_iff.1 HXK.out).1
        have hxe : xs[k] = x := (List.getElem?_eq_some_iff.1 HXK.out).2
        rw [List.take_succ_eq_append_getElem hkl, hxe]
        simp [hq]
      have HO2 : Hid (w3.ownsRow w.heap.size 3 1 v2 (k + 1) (((xs.take (k + 1)).map fun x => clampI (numV x)).map (Value.int .i64))) := by
        show World.ownsRow _ _ _ _ _ _ _
        rw [hcell]
        simpa using hown2
      clear hown2 hgrow hRB3 hG3 hown hcell
      go_wp2_with fail
      go_roundw
      case rel => exact ⟨k + 1, by omega, by go_num, HZ, hs3, HO2.out⟩
      case measure => simp [intOf]; omega
    · have hkn : xs.take k = xs := List.take_of_length_le (by have := HL.out; omega)
      have HO2 := Lib.hid HO.out
      rw [hkn] at HO2 HG
      have hkn2 : k = n := by omega
      subst hkn2
      obtain ⟨A', c', rfl, q1, q2, q3⟩ := own_ints HO2.out (by intro y hy; simp at hy; obtain ⟨z, _, rfl⟩ := hy; exact clampI_i64 _)
      have HQ := Lib.hid (And.intro q3 (And.intro q1 q2))
      have HOW : Hid (∀ p : Addr, A' = some p → w.heap.size ≤ p.block) := fun p hp => (HO2.out.lt p.block (by rw [hp]; rfl)).1
      clear HO q3 q1 q2 HO2 hl
      go_wp2_with fail
      go_ret
      exact ⟨A', c', rfl, HQ.out.2.1, HQ.out.2.2, HQ.out.1, HOW.out, HG.out.1, HG.out.2⟩

end Go.Proofs.YtigdaaloagecgaaGreatDoor
