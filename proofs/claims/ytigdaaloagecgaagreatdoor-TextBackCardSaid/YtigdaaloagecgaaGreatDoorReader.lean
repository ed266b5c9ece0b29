/-
  text.reader: fail, room, fits, name, number: their walks. Condition: the library's variables hold what its text lays.
-/
import Derived.Test.YtigdaaloagecgaaGreatDoorShowSt
import Derived.Test.YtigdaaloagecgaaGreatDoorSmall3
namespace Go.Proofs.YtigdaaloagecgaaGreatDoor
open Go.RowKit

/-- block b holds a reader with these slices and this error -/
def RB (b : Nat) (v : Value × Value × Value × Value) (e : Int) (W : World) : Prop := W.heap[b]? = some (.cells #[v.1, v.2.1, v.2.2.1, v.2.2.2, .int .i64 e] 63 (0, 0))
/-- the first error is kept -/
def orE (e e2 : Int) : Int := if e = 0 then e2 else e
theorem RB.cell4 {b : Nat} {v : Value × Value × Value × Value} {e : Int} {W : World} (h : RB b v e W) : W.cell? ⟨b, 4, none⟩ = some (.int .i64 e) := by rw [Lib.cell_of_heap h]; rfl
theorem RB.set {b : Nat} {v : Value × Value × Value × Value} {e : Int} {W : World} (h : RB b v e W) (e2 : Int) : RB b v e2 (W.setCell ⟨b, 4, none⟩ (.int .i64 e2)) := by
  show (W.setCell _ _).heap[b]? = _
  simp only [World.setCell, Array.getElem?_modify]
  rw [show W.heap[b]? = _ from h]
  simp
theorem RB.later {b : Nat} {v : Value × Value × Value × Value} {e : Int} {W W' : World} (h : RB b v e W) (hb : Below W.heap.size W W') : RB b v e W' := (hb.block b (heap_lt h)).trans h

set_option maxHeartbeats 1000000 in
theorem rfail_any (b : Nat) (v : Value × Value × Value × Value) (e e2 : Int) (w : World) (h : RB b v e w) :
    Calls Tryz.prog 44 #[.pointer (some ⟨b, 0, none⟩), .int .i64 e2] w fun r w' => r = .returned (.tuple #[]) ∧ RB b v (orE e e2) w' ∧ w.grownBy w' (some b) := by
  have c4 := h.cell4
  have fz : w.frozen? ⟨b, 4, none⟩ = false := Lib.frozen_of_heap h 4
  have HR := Lib.hid h
  have HS := Lib.hid (h.set e2)
  clear h
  by_cases h0 : e = 0
  · subst h0
    go_enter Tryz.func44, Tryz.ntmps44
    go_wp2_with fail
    go_end0
    exact ⟨rfl, by rw [show orE 0 e2 = e2 from rfl]; exact HS.out, grown_set w rfl _⟩
  · have hE : (e == 0) = false := by simp [h0]
    go_enter Tryz.func44, Tryz.ntmps44
    go_wp2_with fail
    go_end0
    exact ⟨rfl, by rw [show orE e e2 = e by unfold orE; rw [if_neg h0]]; exact HR.out, World.grownBy.refl w _⟩

set_option maxHeartbeats 1000000 in
theorem rroom_any (b : Nat) (v : Value × Value × Value × Value) (e many most : Int) (w : World) (h : RB b v e w) :
    Calls Tryz.prog 61 #[.pointer (some ⟨b, 0, none⟩), .int .i64 many, .int .i64 most] w fun r w' => r = .returned (.tuple #[]) ∧ RB b v (if most ≤ many then orE e 11 else e) w' ∧ w.grownBy w' (some b) := by
  have HR := Lib.hid h
  have HF := Lib.hid (rfail_any b v e 11 w h)
  clear h
  by_cases h0 : most ≤ many
  · rw [if_pos h0]
    go_enter Tryz.func61, Tryz.ntmps61
    go_wp2_with fail
    refine HF.out.mono ?_
    rintro r w' ⟨rfl, hr, hg⟩
    go_wp2_with fail
    go_end0
    exact ⟨rfl, hr, hg⟩
  · rw [if_neg h0]
    go_enter Tryz.func61, Tryz.ntmps61
    go_wp2_with fail
    go_end0
    exact ⟨rfl, HR.out, World.grownBy.refl w _⟩

set_option maxHeartbeats 1000000 in
theorem rfits_any (b : Nat) (v : Value × Value × Value × Value) (e : Int) (A : Option Addr) (n c : Nat) (l : List Int) (w : World) (h : RB b v e w) (hl : Arr Rep.int w w.heap.size A n l) (hn : n ≤ maxLen) :
    Calls Tryz.prog 60 #[.pointer (some ⟨b, 0, none⟩), .slice A n c] w fun r w' => r = .returned (.tuple #[]) ∧ RB b v (if l.any badB = true then orE e 2 else e) w' ∧ w.grownBy w' (some b) := by
  have HR := Lib.hid h
  have HF := Lib.hid (rfail_any b v e 2 w h)
  have HC := Lib.hid (containsInt_fits A n c l w hl hn)
  clear h hl hn
  generalize l.any badB = q at HC
  cases q
  · go_enter Tryz.func60, Tryz.ntmps60
    go_wp2_with fail
    refine HC.out.mono ?_
    rintro r w' ⟨rfl, rfl⟩
    go_wp2_with fail
    go_end0
    exact ⟨rfl, HR.out, World.grownBy.refl w _⟩
  · go_enter Tryz.func60, Tryz.ntmps60
    go_wp2_with fail
    refine HC.out.mono ?_
    rintro r w' ⟨rfl, rfl⟩
    go_wp2_with fail
    refine HF.out.mono ?_
    rintro r w' ⟨rfl, hr, hg⟩
    go_wp2_with fail
    go_end0
    exact ⟨rfl, hr, hg⟩

end Go.Proofs.YtigdaaloagecgaaGreatDoor
