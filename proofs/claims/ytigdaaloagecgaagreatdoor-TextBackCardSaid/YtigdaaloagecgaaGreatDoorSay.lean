/-
  text.shower's say and name, the names of kinds and instructions, numbers as words. Conditions: the library's tables hold what its text lays; a text has at most 2^47 bytes.
-/
import Derived.Test.YtigdaaloagecgaaGreatDoorBuilder
import Derived.Test.YtigdaaloagecgaaGreatDoorShelf
import Derived.WalkSmall
import Derived.Lib.AppendIntMem
import Derived.Deep.RegionHeld3
namespace Go.Proofs.YtigdaaloagecgaaGreatDoor
open Go.RowKit

/-- what the library's variables hold -/
structure Libs (w : World) : Prop where
  pow : Lib.TabIs Tryz.prog w "internal/strconv.uint64pow10" .u64 Lib.pow10Tab
  sp : Lib.TabIs Tryz.prog w "strings.asciiSpace" .u8 Lib.asciiSpaceTab
  len : ∃ m, w.cell? ⟨3, 0, none⟩ = some (.int .i64 m)
  syn : ∃ te pe, w.cell? ⟨8, 0, none⟩ = some (.iface te pe)
  rng : ∃ te pe, w.cell? ⟨9, 0, none⟩ = some (.iface te pe)
theorem Libs.size {w : World} (h : Libs w) : 9 < w.heap.size := by
  obtain ⟨te, pe, hr⟩ := h.rng
  exact World.block_lt_of_cell? w _ hr
theorem gPow : Tryz.prog.globalNamed "internal/strconv.uint64pow10" = some 2 := by kernel_rfl
theorem gSp : Tryz.prog.globalNamed "strings.asciiSpace" = some 0 := by kernel_rfl
theorem Libs.below {w w' : World} {B : Nat} (h : Libs w) (hb : Below B w w') (hB : 10 ≤ B) : Libs w' := by
  obtain ⟨h1, h2, ⟨m, h3⟩, ⟨a, b, h4⟩, ⟨c, d, h5⟩⟩ := h
  exact ⟨var?_below hb gPow (by omega) h1, var?_below hb gSp (by omega) h2, ⟨m, (hb.cell (by simp; omega)).trans h3⟩, ⟨a, b, (hb.cell (by simp; omega)).trans h4⟩, ⟨c, d, (hb.cell (by simp; omega)).trans h5⟩⟩

/-- a text of so many letters -/
def str (s : String) : List UInt8 := s.toUTF8.data.toList
def kindsT : ByteArray := ⟨#[105, 110, 112, 117, 116, 32, 112, 114, 111, 103, 32, 115, 104, 105, 102, 116, 32, 107, 101, 101, 112, 32, 99, 111, 110, 99, 97, 116, 32, 115, 117, 109, 32, 99, 111, 117, 110, 116, 32, 100, 105, 115, 116, 105, 110, 99, 116, 32, 106, 111, 105, 110, 32, 101, 110, 116, 101, 114, 32, 108, 101, 97, 118, 101, 32, 98, 97, 99, 107, 32, 105, 110, 115, 112, 101, 99, 116, 32, 116, 111, 116, 97, 108, 32, 115, 105, 110, 107]⟩
def codesT : ByteArray := ⟨#[112, 117, 115, 104, 32, 107, 101, 121, 32, 118, 97, 108, 32, 97, 100, 100, 32, 115, 117, 98, 32, 109, 117, 108, 32, 100, 105, 118, 32, 109, 111, 100, 32, 108, 101, 115, 115, 32, 115, 97, 109, 101, 32, 100, 117, 112, 32, 115, 119, 97, 112, 32, 100, 114, 111, 112, 32, 106, 117, 109, 112, 32, 122, 101, 114, 111, 32, 101, 109, 105, 116]⟩
/-- the names of the kinds, of the instructions -/
def kindsL : List (List UInt8) := Lib.fields kindsT.data.toList
def codesL : List (List UInt8) := Lib.fields codesT.data.toList
theorem kindsL_len : kindsL.length = 15 := by decide +kernel
theorem codesL_len : codesL.length = 16 := by decide +kernel
/-- names as cells -/
def nameCells (l : List (List UInt8)) : Array Value := (l.map fun x => Value.string (bs x)).toArray
theorem ascii_of {l : List UInt8} (h : l.all (fun b => b.toNat < 128) = true) : ∀ (j : Nat) (b : UInt8), l[j]? = some b → b.toNat < 128 := by
  intro j b hb
  have := (List.all_eq_true.1 h) b (List.mem_of_getElem? hb)
  simpa using this

theorem fieldsK (w : World) (L : Libs w) : Calls Tryz.prog 35 #[.string kindsT] w fun e w' => e = .returned (.slice (some ⟨w.heap.size, 0, none⟩) 15 15) ∧ w' = w.alloc (.cells (nameCells kindsL) 9) := by
  have h := Tryz.strings_Fields kindsT w (by decide +kernel) (ascii_of (by decide +kernel)) L.sp
  refine h.mono fun e w' ⟨he, hw⟩ => ⟨?_, hw⟩
  rw [he]
  show _ = Ending.returned (Value.slice _ 15 15)
  rw [show (Lib.fields kindsT.data.toList).length = 15 from kindsL_len]
theorem fieldsC (w : World) (L : Libs w) : Calls Tryz.prog 35 #[.string codesT] w fun e w' => e = .returned (.slice (some ⟨w.heap.size, 0, none⟩) 16 16) ∧ w' = w.alloc (.cells (nameCells codesL) 9) := by
  have h := Tryz.strings_Fields codesT w (by decide +kernel) (ascii_of (by decide +kernel)) L.sp
  refine h.mono fun e w' ⟨he, hw⟩ => ⟨?_, hw⟩
  rw [he]
  rw [show (Lib.fields codesT.data.toList).length = 16 from codesL_len]

theorem kinds_any (w : World) (L : Libs w) : Calls Tryz.prog 15 #[] w fun e w' => e = .returned (.slice (some ⟨w.heap.size, 0, none⟩) 15 15) ∧ w' = w.alloc (.cells (nameCells kindsL) 9) := by
  have H := Lib.hid (fieldsK w L)
  go_enter Tryz.func15, Tryz.ntmps15
  go_wp2_with fail
  refine H.out.mono ?_
  rintro e w' ⟨rfl, rfl⟩
  go_wp2
  go_ret
  exact ⟨rfl, rfl⟩
theorem codes_any (w : World) (L : Libs w) : Calls Tryz.prog 17 #[] w fun e w' => e = .returned (.slice (some ⟨w.heap.size, 0, none⟩) 16 16) ∧ w' = w.alloc (.cells (nameCells codesL) 9) := by
  have H := Lib.hid (fieldsC w L)
  go_enter Tryz.func17, Tryz.ntmps17
  go_wp2_with fail
  refine H.out.mono ?_
  rintro e w' ⟨rfl, rfl⟩
  go_wp2
  go_ret
  exact ⟨rfl, rfl⟩
theorem refKinds_any (w : World) : Calls Tryz.prog 21 #[] w fun e w' => e = .returned (.slice (some ⟨w.heap.size, 0, none⟩) 15 15) ∧ w' = w.alloc (.cells (nameCells kindsL) 9) := by
  go_enter Tryz.func21, Tryz.ntmps21
  go_wp2
  go_ret
  exact ⟨rfl, congrArg (fun c => w.alloc (.cells c 9)) (by kernel_rfl)⟩
theorem refCodes_any (w : World) : Calls Tryz.prog 22 #[] w fun e w' => e = .returned (.slice (some ⟨w.heap.size, 0, none⟩) 16 16) ∧ w' = w.alloc (.cells (nameCells codesL) 9) := by
  go_enter Tryz.func22, Tryz.ntmps22
  go_wp2
  go_ret
  exact ⟨rfl, congrArg (fun c => w.alloc (.cells c 9)) (by kernel_rfl)⟩

/-- a number as a word -/
theorem itoa_any (n : Int) (hn : I64 n) (w : World) (L : Libs w) : Calls Tryz.prog 13 #[.int .i64 n] w fun e w' => e = .returned (.string (bs (Lib.itoa n))) ∧ Below w.heap.size w w' :=
  (Tryz.strconv_Itoa n hn.1 hn.2 w L.pow).mono fun e w' ⟨he, k, os, hw⟩ => ⟨he, by rw [hw]; exact Lib.below_grow _ w (Nat.le_refl _) k os⟩
theorem num_any (n : Int) (hn : I64 n) (w : World) (L : Libs w) : Calls Tryz.prog 16 #[.int .i64 n] w fun e w' => e = .returned (.string (bs (Lib.itoa n))) ∧ Below w.heap.size w w' := by
  have H := Lib.hid (Tryz.strconv_FormatInt_10 n hn.1 hn.2 w L.pow)
  go_enter Tryz.func16, Tryz.ntmps16
  go_wp2_with fail
  refine H.out.mono ?_
  rintro e w' ⟨rfl, k, os, hw⟩
  have hb : Below w.heap.size w w' := by rw [hw]; exact Lib.below_grow _ w (Nat.le_refl _) k os
  clear hw
  go_wp2
  go_ret
  exact ⟨rfl, hb⟩

/-- one line of words -/
def lineOf (xs : List (List UInt8)) : List UInt8 := Lib.join xs [32] ++ [10]
theorem strCells_eq (l : List UInt8) : Lib.strCells (bs l) = Lib.byteCells l := rfl
theorem byteCells_append (a b : List UInt8) : Lib.byteCells (a ++ b) = Lib.byteCells a ++ Lib.byteCells b := by simp [Lib.byteCells]
theorem byteCells_len (a : List UInt8) : (Lib.byteCells a).length = a.length := by simp [Lib.byteCells]
theorem run_add {P : Program} (x y : List UInt8) (h : x.length + y.length ≤ 4000000) (w : World) : (Op.stringOp .add (bs x) (bs y)).run P w = .ok (.string (bs (x ++ y))) w :=
  run_string_add_lists w x y (by omega) (by omega)
theorem run_add_r {P : Program} (x y : List UInt8) (h : x.length + y.length ≤ 4000000) (w : World) : (Op.stringOp .add (bs x) ⟨y.toArray⟩).run P w = .ok (.string (bs (x ++ y))) w := run_add x y h w
theorem run_add_l {P : Program} (x y : List UInt8) (h : x.length + y.length ≤ 4000000) (w : World) : (Op.stringOp .add ⟨x.toArray⟩ (bs y)).run P w = .ok (.string (bs (x ++ y))) w := run_add x y h w
theorem join_any (bk n c : Nat) (xs : List (List UInt8)) (w : World) (hn : xs.length = n) (hc : n ≤ c) (hcells : ∀ (j : Nat) x, xs[j]? = some x → w.cell? ⟨bk, j, none⟩ = some (.string (bs x))) (hbk : bk < w.heap.size)
    (hlen : (Lib.join xs [32]).length ≤ 1000000) (hn1 : n ≤ 1000000) (W : World) (hW : Below w.heap.size w W) :
    Calls Tryz.prog 33 #[.slice (some ⟨bk, 0, none⟩) n c, .string ⟨#[32]⟩] W fun e w' => e = .returned (.string (bs (Lib.join xs [32]))) ∧ Below W.heap.size W w' := by
  subst hn
  have := Tryz.strings_Join bk 0 c (xs.map fun x => ⟨x.toArray⟩) ⟨#[32]⟩ W (fun j x hx => by
    rw [List.getElem?_map] at hx
    cases hxs : xs[j]? with
    | none => rw [hxs] at hx; cases hx
    | some y =>
      rw [hxs] at hx
      injection hx with hx
      subst hx
      rw [Nat.zero_add, hW.cell (p := ⟨bk, j, none⟩) hbk]
      exact hcells j y hxs) (Nat.lt_of_lt_of_le hbk hW.size) (by simp; omega) (by simpa using hc) (by simp [Function.comp_def]; omega)
  simp only [List.length_map, List.map_map, Function.comp_def, List.map_id'] at this
  exact this

theorem below_undrew {B : Nat} {w w' : World} (h : Below B w.drew w') : Below B w w' := ⟨h.os, h.tape, h.output, h.size, h.block⟩
theorem others_below {e : TypeId} {b : Option Nat} {w w' : World} (h : Below w.heap.size w w') : Lib.OthersKept e b w w' := fun k o hk _ _ => (h.block k (by
  rcases Nat.lt_or_ge k w.heap.size with h' | h'
  · exact h'
  · simp [Array.getElem?_eq_none h'] at hk)).trans hk

set_option maxHeartbeats 1000000 in
theorem say_any (B b : Nat) (l : List UInt8) (bad : Bool) (bk n c : Nat) (xs : List (List UInt8)) (w : World) (h : IsShow B b (Lib.byteCells l) bad w) (hBw : B ≤ w.heap.size)
    (hn : xs.length = n) (hc : n ≤ c) (hcells : ∀ (j : Nat) x, xs[j]? = some x → w.cell? ⟨bk, j, none⟩ = some (.string (bs x))) (hbk : bk < w.heap.size) (hlen : l.length + (Lib.join xs [32]).length < 1000000) (hn1 : n < 1000000) :
    Calls Tryz.prog 12 #[.pointer (some ⟨b, 0, none⟩), .slice (some ⟨bk, 0, none⟩) n c] w fun e w' => e = .returned (.tuple #[]) ∧ IsShow B b (Lib.byteCells (l ++ lineOf xs)) bad w' ∧ Below B w w' ∧ Lib.OthersKept 5 (some b) w w' := by
  have hj := join_any bk n c xs w hn hc hcells hbk (by omega) (by omega)
  have hlo : lineOf xs = Lib.join xs [32] ++ [10] := rfl
  rw [hlo]
  clear hlo hcells hn1
  generalize Lib.join xs [32] = J at hj hlen
  have hadd := fun W : World => run_add_r (P := Tryz.prog) J [10] (by simp; omega) W
  have hws : ∀ W : World, Below w.heap.size w W → Calls Tryz.prog 32 #[.pointer (some ⟨b, 0, none⟩), .string (bs (J ++ [10]))] W fun e w' => e = .returned (.tuple #[.int .i64 (J ++ [10]).length, .nilIface]) ∧ IsShow B b (Lib.byteCells (l ++ (J ++ [10]))) bad w' ∧ Below B W w' ∧ Lib.OthersKept 5 (some b) W w' := by
    intro W hW
    refine (writeString_any B b (Lib.byteCells l) bad (bs (J ++ [10])) W (h.later hW) (by rw [byteCells_len, bs_size]; simp; omega) (by have := hW.size; omega)).mono ?_
    rintro e w' ⟨he, h1, h2, h3⟩
    rw [bs_size] at he
    rw [strCells_eq, ← byteCells_append] at h1
    exact ⟨he, .inr h1, h2, h3⟩
  have HJ := Lib.hid hj
  have HS := Lib.hid hws
  have hlt := h.lt
  clear hj h hws
  generalize J ++ [10] = J1 at hadd HS
  go_enter Tryz.func12, Tryz.ntmps12
  go_wp2
  go_region_held3 (fun _ => True) (trivial) (first | (go_at_call 33; refine (HJ.out _ ?_).mono ?_; (exact Below.drew (Below.refl _ _)); rintro e w1 ⟨rfl, hb1⟩) | (go_at_call 32; refine (HS.out _ (below_undrew hb1)).mono ?_; rintro e w2 ⟨rfl, hs2, hb2, hk2⟩))
  have hb := below_undrew hb1
  go_end0
  exact ⟨rfl, hs2, (hb.mono hBw).trans hb2, (others_below hb).trans hk2⟩

/-- the name at a place, from one on -/
def nmOf (l : List (List UInt8)) (n : Int) : List UInt8 := if 1 ≤ n ∧ n ≤ l.length then l.getD (n - 1).toNat [] else []
def nmOK (l : List (List UInt8)) (n : Int) : Bool := decide (1 ≤ n) && decide (n ≤ l.length)

set_option maxHeartbeats 1000000 in
theorem name_any (B b : Nat) (l : List UInt8) (bad : Bool) (bk c : Nat) (ns : List (List UInt8)) (k : Int) (m : Nat) (w : World) (h : IsShow B b (Lib.byteCells l) bad w) (hm : ns.length = m)
    (hcells : ∀ (j : Nat) x, ns[j]? = some x → w.cell? ⟨bk, j, none⟩ = some (.string (bs x))) (hm1 : m ≤ 1000000) :
    Calls Tryz.prog 14 #[.pointer (some ⟨b, 0, none⟩), .slice (some ⟨bk, 0, none⟩) m c, .int .i64 k] w fun e w' => e = .returned (.string (bs (nmOf ns k))) ∧ IsShow B b (Lib.byteCells l) (bad || !nmOK ns k) w' ∧ Below B w w' ∧ Lib.OthersKept 5 (some b) w w' := by
  have hB : B ≤ b := h.elim (·.1) (·.1)
  by_cases hk : 1 ≤ k ∧ k ≤ m
  · obtain ⟨k1, k2⟩ := hk
    obtain ⟨j, rfl⟩ : ∃ j : Nat, k = (j : Int) + 1 := ⟨(k - 1).toNat, by omega⟩
    have hj : j < ns.length := by omega
    have hx : ns[j]? = some ns[j] := List.getElem?_eq_getElem hj
    have hc := hcells j _ hx
    have hv : nmOf ns ((j : Int) + 1) = ns[j] := by
      unfold nmOf
      rw [if_pos (by omega), show ((j : Int) + 1 - 1).toNat = j by omega, List.getD_eq_getElem?_getD, hx]; rfl
    have hf : (bad || !nmOK ns ((j : Int) + 1)) = bad := by
      have : nmOK ns ((j : Int) + 1) = true := by simp [nmOK]; omega
      simp [this]
    rw [hv, hf]
    have HZ := Lib.hid h
    have hjm : j < m := by omega
    clear hv hf hx hcells hm h
    generalize ns[j] = x at hc
    clear hj k1 k2
    go_enter Tryz.func14, Tryz.ntmps14
    go_wp2_with fail
    go_ret
    exact ⟨rfl, HZ.out, Below.refl _ _, Lib.OthersKept.refl _ _ _⟩
  · have hv : nmOf ns k = [] := by unfold nmOf; rw [if_neg (by omega)]
    have hf : (bad || !nmOK ns k) = true := by
      have : nmOK ns k = false := by simp [nmOK]; omega
      simp [this]
    rw [hv, hf]
    have hc2 := h.cell2
    have hf2 := h.frozen 2
    have hz := h.spoil true
    have HZ := Lib.hid hz
    have d0 : k < 1 ∨ (1 ≤ k ∧ (m : Int) < k) := by omega
    clear hv hf hz h hcells hk hm
    rcases d0 with d0 | ⟨d0, d1⟩
    · go_enter Tryz.func14, Tryz.ntmps14
      go_wp2_with fail
      all_goals first | (exfalso; omega) | (go_ret; exact ⟨rfl, HZ.out, (Below.refl _ _).setCell (p := ⟨b, 2, none⟩) hB _, (Lib.OthersKept.refl _ _ _).setCell ⟨b, 2, none⟩ rfl _⟩)
    · go_enter Tryz.func14, Tryz.ntmps14
      go_wp2_with fail
      all_goals first | (exfalso; omega) | (go_ret; exact ⟨rfl, HZ.out, (Below.refl _ _).setCell (p := ⟨b, 2, none⟩) hB _, (Lib.OthersKept.refl _ _ _).setCell ⟨b, 2, none⟩ rfl _⟩)

end Go.Proofs.YtigdaaloagecgaaGreatDoor
