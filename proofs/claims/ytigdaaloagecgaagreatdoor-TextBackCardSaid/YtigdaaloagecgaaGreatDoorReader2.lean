/-
  text.reader's name and number: their walks. Condition: the library's variables hold what its text lays.
-/
import Derived.Test.YtigdaaloagecgaaGreatDoorReader
import Derived.Lib.SmallJoins
namespace Go.Proofs.YtigdaaloagecgaaGreatDoor
open Go.RowKit

/-- the place of a name, from one on; 0: it is none -/
def placeOf (ns : List (List UInt8)) (x : List UInt8) : Int := Lib.idxOfS (ns.map bs) (bs x) + 1
theorem idxOfS_ge (zs : List ByteArray) (x : ByteArray) : -1 ≤ Lib.idxOfS zs x := by
  have gen : ∀ (zs : List ByteArray) (i : Nat), -1 ≤ Lib.idxFromS zs x i := by
    intro zs
    induction zs with
    | nil => intro i; simp [Lib.idxFromS]
    | cons z zs ih => intro i; simp only [Lib.idxFromS]; split; omega; exact ih _
  exact gen zs 0
theorem idxOfS_le (zs : List ByteArray) (x : ByteArray) : Lib.idxOfS zs x < zs.length ∨ Lib.idxOfS zs x = -1 := by
  have gen : ∀ (zs : List ByteArray) (i : Nat), Lib.idxFromS zs x i < (i + zs.length : Nat) ∨ Lib.idxFromS zs x i = -1 := by
    intro zs
    induction zs with
    | nil => intro i; simp [Lib.idxFromS]
    | cons z zs ih =>
      intro i
      simp only [Lib.idxFromS, List.length_cons]
      split
      · omega
      · have := ih (i + 1); omega
  have h := gen zs 0
  rw [Nat.zero_add] at h
  exact h

set_option maxHeartbeats 1000000 in
theorem rname_any (b : Nat) (v : Value × Value × Value × Value) (e : Int) (bk n c : Nat) (ns : List (List UInt8)) (x : List UInt8) (w : World) (h : RB b v e w) (hn : ns.length = n) (hn1 : n ≤ 1000000)
    (hcells : ∀ (j : Nat) y, ns[j]? = some y → w.cell? ⟨bk, j, none⟩ = some (.string (bs y))) :
    Calls Tryz.prog 62 #[.pointer (some ⟨b, 0, none⟩), .slice (some ⟨bk, 0, none⟩) n c, .string (bs x)] w fun r w' => r = .returned (.int .i64 (placeOf ns x)) ∧ RB b v (if placeOf ns x = 0 then orE e 4 else e) w' ∧ w.grownBy w' (some b) := by
  have HR := Lib.hid h
  have HF := Lib.hid (rfail_any b v e 4 w h)
  have hi := Tryz.slices_Index_string bk 0 n c (ns.map bs) (bs x) w (by simp; omega) (by omega) (fun j hj => by
    have hj' : j < ns.length := by simpa using hj
    rw [Nat.zero_add, hcells j _ (List.getElem?_eq_getElem hj')]
    simp [List.getD, hj'])
  rw [List.take_of_length_le (by simp; omega)] at hi
  have HI := Lib.hid hi
  have hp : placeOf ns x = Lib.idxOfS (ns.map bs) (bs x) + 1 := rfl
  have g1 := idxOfS_ge (ns.map bs) (bs x)
  have g2 := idxOfS_le (ns.map bs) (bs x)
  rw [hp]
  rw [List.length_map] at g2
  clear hi h hcells hp
  generalize Lib.idxOfS (ns.map bs) (bs x) = q at HI g1 g2
  have g3 : q < 1000000 := by omega
  clear g2 hn
  by_cases h0 : q < 0
  · obtain rfl : q = -1 := by omega
    go_enter Tryz.func62, Tryz.ntmps62
    go_wp2_with fail
    refine HI.out.mono ?_
    rintro r w' ⟨rfl, rfl⟩
    go_wp2_with fail
    refine HF.out.mono ?_
    rintro r w' ⟨rfl, hr, hg⟩
    go_wp2_with fail
    go_ret
    exact ⟨rfl, hr, hg⟩
  · rw [if_neg (show ¬ q + 1 = 0 by omega)]
    go_enter Tryz.func62, Tryz.ntmps62
    go_wp2_with fail
    refine HI.out.mono ?_
    rintro r w' ⟨rfl, rfl⟩
    go_wp2_with fail
    go_ret
    exact ⟨rfl, HR.out, World.grownBy.refl w' _⟩

/-- the number of a word, in its one form -/
def numOf (x : List UInt8) : Option Int := match Lib.parseIntB 64 x with
  | .ok v => if Lib.itoa v = x then some v else none
  | _ => none
theorem numOf_i64 {x : List UInt8} {v : Int} (h : numOf x = some v) : I64 v := by
  unfold numOf at h
  split at h
  · next u hu =>
    have := Lib.parseIntB_bounds hu
    split at h
    · injection h with h; subst h; unfold I64; omega
    · cases h
  · cases h
theorem bs_inj {x y : List UInt8} (h : bs x = bs y) : x = y := by
  have : (bs x).data.toList = (bs y).data.toList := by rw [h]
  exact this

theorem bs_toList (x : List UInt8) : (bs x).toList = x := by rw [ByteArray.toList_eq]; rfl
theorem grown_trans' {a b c : World} {row : Option Nat} (h : Below a.heap.size a b) (k : b.grownBy c row) : a.grownBy c row := grown_trans (grown_of_below h row) k

set_option maxHeartbeats 1000000 in
set_option maxRecDepth 100000 in
theorem rnumber_any (b : Nat) (v : Value × Value × Value × Value) (e : Int) (x : List UInt8) (w : World) (h : RB b v e w) (L : Libs w) (hx : x.length ≤ 1000000) :
    Calls Tryz.prog 63 #[.pointer (some ⟨b, 0, none⟩), .string (bs x)] w fun r w' => r = .returned (.int .i64 ((numOf x).getD 0)) ∧ RB b v (if numOf x = none then orE e 4 else e) w' ∧ w.grownBy w' (some b) := by
  have HR := fun (W : World) (hB : Below w.heap.size w W) => h.later hB
  have HRR := Lib.hid HR
  have HF := fun (W : World) (hB : Below w.heap.size w W) => rfail_any b v e 4 W (h.later hB)
  have HFF := Lib.hid HF
  have hbs : (bs x).size ≤ 1000000 := by rw [bs_size]; exact hx
  rcases hp : Lib.parseIntB 64 x with u | _ | _
  · have hI : I64 u := by have := Lib.parseIntB_bounds hp; unfold I64; omega
    have HP := Lib.hid (Tryz.strconv_ParseInt_10_at64_ok (bs x) (by omega) u hp w)
    have HFM : Hid (∀ W : World, Below w.heap.size w W → Calls Tryz.prog 36 #[.int .i64 u, .int .i64 10] W fun r w' => r = .returned (.string (bs (Lib.itoa u))) ∧ Below W.heap.size W w') := fun W hB =>
      (Tryz.strconv_FormatInt_10 u hI.1 hI.2 W ((L.below hB L.size).pow)).mono fun _ _ ⟨he, k, os, hw⟩ => ⟨he, by rw [hw]; exact Lib.below_grow _ W (Nat.le_refl _) k os⟩
    have hno : numOf x = if Lib.itoa u = x then some u else none := by unfold numOf; rw [hp]
    clear HR HF h L hp hx hbs hI
    by_cases hu : Lib.itoa u = x
    · rw [if_pos hu] at hno
      rw [hno]
      have hq : ((bs (Lib.itoa u)).toList == (bs x).toList) = true := by rw [bs_toList, bs_toList, hu]; simp
      simp only [Option.getD_some, reduceCtorEq, if_false]
      clear hno hu
      go_enter Tryz.func63, Tryz.ntmps63
      go_wp2_with fail
      refine HP.out.mono ?_
      rintro r w1 ⟨rfl, hw⟩
      have hB : Below w.heap.size w w1 := by
        rcases hw with rfl | ⟨t, rfl⟩
        · exact Below.refl _ _
        · exact Joins.below_bytesWorld _ w _ _ (Nat.le_refl _)
      clear hw
      go_wp2_with (go_at_call 36; refine (HFM.out _ ?_).mono ?_; (first | exact hB | exact hB.drew); rintro r w2 ⟨rfl, hB2⟩)
      go_ret
      have hB3 : Below w.heap.size w w2 := hB.trans ((by first | exact hB2 | exact below_undrew hB2 : Below w1.heap.size w1 w2).mono hB.size)
      exact ⟨rfl, HRR.out _ hB3, grown_of_below hB3 _⟩
    · rw [if_neg hu] at hno
      rw [hno]
      have hq : ((bs (Lib.itoa u)).toList == (bs x).toList) = false := by rw [bs_toList, bs_toList]; simpa using hu
      simp only [Option.getD_none, if_true]
      clear hno hu
      go_enter Tryz.func63, Tryz.ntmps63
      go_wp2_with fail
      refine HP.out.mono ?_
      rintro r w1 ⟨rfl, hw⟩
      have hB : Below w.heap.size w w1 := by
        rcases hw with rfl | ⟨t, rfl⟩
        · exact Below.refl _ _
        · exact Joins.below_bytesWorld _ w _ _ (Nat.le_refl _)
      clear hw
      go_wp2_with (go_at_call 36; refine (HFM.out _ ?_).mono ?_; (first | exact hB | exact hB.drew); rintro r w2 ⟨rfl, hB2⟩)
      have hB3 : Below w.heap.size w w2 := hB.trans ((by first | exact hB2 | exact below_undrew hB2 : Below w1.heap.size w1 w2).mono hB.size)
      refine (HFF.out _ hB3).mono ?_
      rintro r w3 ⟨rfl, hr, hg⟩
      go_wp2_with fail
      go_ret
      exact ⟨rfl, hr, grown_trans' hB3 hg⟩
  · obtain ⟨te, pe, hv⟩ := L.syn
    have HP := Lib.hid (Tryz.strconv_ParseInt_10_at64_syntax (bs x) (by omega) hp _ w hv (.inr ⟨_, _, rfl⟩))
    have hno : numOf x = none := by unfold numOf; rw [hp]
    rw [hno]
    simp only [Option.getD_none, if_true]
    clear HR HF h L hp hx hbs hv hno
    go_enter Tryz.func63, Tryz.ntmps63
    go_wp2_with fail
    refine HP.out.mono ?_
    rintro r w1 ⟨N, rfl, hN, hN2, hB⟩
    clear hN hN2
    go_wp2_with fail
    refine (HFF.out _ (by first | exact hB | exact hB.drew)).mono ?_
    rintro r w3 ⟨rfl, hr, hg⟩
    go_wp2_with fail
    go_ret
    exact ⟨rfl, hr, grown_trans' (by first | exact hB | exact hB.drew) hg⟩
  · obtain ⟨te, pe, hv⟩ := L.rng
    have HP := Lib.hid (Tryz.strconv_ParseInt_10_at64_range (bs x) (by omega) hp _ w hv (.inr ⟨_, _, rfl⟩))
    have hno : numOf x = none := by unfold numOf; rw [hp]
    rw [hno]
    simp only [Option.getD_none, if_true]
    clear HR HF h L hp hx hbs hv hno
    generalize Lib.intSat 64 (bs x).data.toList = sat at HP
    go_enter Tryz.func63, Tryz.ntmps63
    go_wp2_with fail
    refine HP.out.mono ?_
    rintro r w1 ⟨N, rfl, hN, hN2, hB⟩
    clear hN hN2
    go_wp2_with fail
    refine (HFF.out _ (by first | exact hB | exact hB.drew)).mono ?_
    rintro r w3 ⟨rfl, hr, hg⟩
    go_wp2_with fail
    go_ret
    exact ⟨rfl, hr, grown_trans' (by first | exact hB | exact hB.drew) hg⟩

end Go.Proofs.YtigdaaloagecgaaGreatDoor
