/-
  Whatever graph and whatever text come in: what text.Show writes, text.Parse reads back as the same graph, and what text.Parse takes, text.Show writes so that it reads back as the same: the statement TextBackCardSaid. Conditions: those that the given row and its card print (the listed variables of the library start as its text lays them).
-/
import Derived.Test.YtigdaaloagecgaaGreatDoorCards
import Derived.Test.YtigdaaloagecgaaGreatDoorTie
import Derived.Test.YtigdaaloagecgaaGreatDoorTextBack
import Derived.Test.YtigdaaloagecgaaGreatDoorRead
import Derived.Test.YtigdaaloagecgaaGreatDoorLaid
import Derived.ProofKit
import Derived.OpenShut
import Derived.ChangeMaps5
import Derived.Carry
import Derived.Lay
import Derived.Deep.DeepHandedRow
import Derived.SevenTiedAt
namespace Go.Proofs.YtigdaaloagecgaaGreatDoor
open Go.ChangeShapes Go.WideShapes Go.ChangeAt Go.RowKit

theorem own : ownKnob Tryz.prog.godebug = none := by kernel_rfl
theorem laidOut : laidOutB Tryz.prog = true := by kernel_rfl
theorem readsG : Tryz.prog.readableRec 26 = true := by kernel_rfl
theorem rowG : 26 < Tryz.prog.types.size := of_decide_eq_true (by kernel_rfl)

theorem readsS : Tryz.prog.readableRec 9 = true := by kernel_rfl
theorem rowS : 9 < Tryz.prog.types.size := of_decide_eq_true (by kernel_rfl)

set_option maxRecDepth 100000 in
theorem back_contract (H : Type) (enc : TypeId × Value → H) (W : World) (base : Nat) (args : Array Value) (ds gs : List (DataW H)) (before : List MemPlace)
    (hval : ∀ (j : Nat) t v, Tryz.f4.params[j]? = some t → args[j]? = some v → Value.okWide Tryz.prog W .any base t v)
    (hW : DataW.Whole enc Tryz.prog Tryz.f4.params.toList Rows.textBackSpec.vars false W args.toList ds gs before) (hL : laidMetH Tryz.prog Rows.textBackRow.laid W) (hsh : W.ShapedOpen Tryz.prog) :
    Calls Tryz.prog 4 args W fun e W' => ∃ v, e = .returned v ∧ Rows.textBackSpec.post enc Tryz.prog Tryz.f4 false true false false W args v W' := by
  have hW' := hW
  obtain ⟨p, q, hA0, hV, rfl, hfz, hnd⟩ := hW
  have hA : DataW.TrodAll enc Tryz.prog W 0 (fun _ => true) true Tryz.f4.params.toList args.toList ds p := hA0
  rw [Tryz.params4] at hA hval
  obtain ⟨v0, v1, d0, d1, p0, p1, rfl, rfl, rfl, h0, h1⟩ := trodAll_two hA
  obtain ⟨rfl, rfl⟩ := trodVars_none hV
  obtain ⟨s, g, rfl, hg⟩ := read_graph (hval 0 26 v0 rfl rfl) h0
  obtain ⟨t, rfl, -, -, hs⟩ := ChangeMaps.open_string Tryz.underlying9 (hval 1 9 v1 rfl rfl) h1
  simp only [List.append_nil] at hW'
  have ht : t.data.toList.length ≤ 9223372036854775807 := by
    have h2 : t.data.toList.length = t.size := Array.length_toList
    unfold maxLen at hs
    omega
  refine (textBack_any s g t.data.toList W ht hg (libs_of hL hsh)).mono fun e W' ⟨he, hb⟩ => ?_
  subst he
  have hlt : ∀ x ∈ p0 ++ p1, x.block < W.heap.size := fun x hx => hW'.lt x hx
  exact ⟨_, rfl, _, _, _, [], p0 ++ p1, [], hW', trodAll_mk1 (shut_bool Tryz.underlying4 true), trodAll_mk2 (Below.trod laidOut readsG rowG h0 hb (fun x hx => hlt x (List.mem_append_left _ hx))) (Below.trod laidOut readsS rowS h1 hb (fun x hx => hlt x (List.mem_append_right _ hx))), rfl, hb.frame _, fun h => by cases h⟩

noncomputable def witG : Value := .agg #[.slice none 0 0, .slice none 0 0, .slice none 0 0, .slice none 0 0]
theorem back_reads (os : Os) {H : Type} (enc : TypeId × Value → H) : ∃ places, DataW.whole enc Tryz.prog ((World.laidAll Tryz.prog os Rows.textBackRow.laid).forCall (fun _ _ => 0) ⟨#[], #[witG, .string ⟨#[]⟩], []⟩).memory Tryz.f4.params.toList Rows.textBackSpec.vars false #[witG, .string ⟨#[]⟩].toList 8 = some ([.agg [.nil, .nil, .nil, .nil], .lit (.string [])], [], places) :=
  ⟨[], by kernel_rfl⟩
theorem back_laid (os : Os) : laidMetH Tryz.prog Rows.textBackRow.laid ((World.laidAll Tryz.prog os Rows.textBackRow.laid).forCall (fun _ _ => 0) ⟨#[], #[witG, .string ⟨#[]⟩], []⟩).memory := by
  rw [MakeChecks.laidMetH_plain _ _ _ (by kernel_rfl)]
  exact laidMet_laidAll _ (by kernel_rfl) (by kernel_rfl)
theorem back_okB (os : Os) : Input.okWideB Tryz.prog ((World.laidAll Tryz.prog os Rows.textBackRow.laid).forCall (fun _ _ => 0) ⟨#[], #[witG, .string ⟨#[]⟩], []⟩) 4 ⟨#[], #[witG, .string ⟨#[]⟩], []⟩ = true := by kernel_rfl
theorem back_shaped (os : Os) : ((World.laidAll Tryz.prog os Rows.textBackRow.laid).forCall (fun _ _ => 0) ⟨#[], #[witG, .string ⟨#[]⟩], []⟩).Shaped Tryz.prog :=
  World.shaped_of_ZipB (by kernel_rfl) (by kernel_rfl)

set_option maxRecDepth 100000 in
theorem back_lifted (os : Os) (started : os.Started) (H : Type) (enc : TypeId × Value → H) (F : Stop.Interp) :
    ReturnsInHanded {} Tryz.checked os 4 .any ((OpenSpec.ofChange Rows.textBackSpec).preRow enc Tryz.prog Tryz.f4 Rows.textBackRow.domain false Rows.textBackRow.laid) (((OpenSpec.ofChange Rows.textBackSpec).at F).post enc Tryz.prog Tryz.f4 false true false false) := by
  obtain ⟨places, hx⟩ := back_reads os enc
  refine returnsInHanded_of_row (C := Tryz.checked) (s := OpenSpec.ofChange Rows.textBackSpec) own started (by kernel_rfl) Tryz.func4
    ⟨World.laidAll Tryz.prog os Rows.textBackRow.laid, fun _ _ => 0, ⟨#[], #[witG, .string ⟨#[]⟩], []⟩, World.laidAll_os _ _ _, back_shaped os, (Input.okWide_of_okWideB (base := 0) (back_okB os)).1, (Input.okWide_of_okWideB (back_okB os)).2,
      OpenSpec.preRow_of_cond 8 hx (by kernel_rfl) (fun k hk => by cases hk) (by kernel_rfl) (back_laid os), by
        simp only [Assume.holds]
        exact ⟨by simp, by simp, by simp, by simp, by simp⟩⟩ ?_
  intro W base args ds gs before hval hW _ _ _ hL hsh _
  exact back_contract H enc W base args ds gs before hval hW hL hsh

theorem back_said : Rows.TextBackSaid :=
  OpenClaim.holds_of_cond 4 Tryz.f4 rfl rfl rfl rfl rfl rfl rfl ⟨rfl, rfl, rfl, rfl, rfl⟩ rfl rfl rfl rfl rfl (by kernel_rfl) Tryz.func4 (by kernel_rfl)
    (of_decide_eq_true (by kernel_rfl)) (by unfold Func.isWrapper; first | (rw [if_pos (by decide +kernel)]; kernel_rfl) | (rw [if_neg (by decide +kernel)]; exact ⟨rfl, rfl⟩))
    (fun os started H enc _ F => by rw [OpenClaim.pre_eq_preRow]; exact back_lifted os started H enc F)

theorem back_plain (f : FuncId) (fn : Func) (hf : Tryz.pinned.checked.prog.funcNamed "backwash/backwashlaw23.TextBack" = some f) (hfn : Tryz.pinned.checked.prog.funcs[f]? = some fn) :
    true = Tryz.pinned.checked.prog.looks [] ∧ ∀ (j : Nat) t, fn.params[j]? = some t → Tryz.pinned.checked.prog.wantsStandIn t = false := by
  obtain rfl : f = 4 := Option.some.inj ((show Tryz.prog.funcNamed "backwash/backwashlaw23.TextBack" = some 4 by kernel_rfl).symm.trans hf) |>.symm
  obtain rfl : fn = Tryz.f4 := (Option.some.inj (Tryz.func4.symm.trans hfn)).symm
  refine ⟨by kernel_rfl, fun j t ht => ?_⟩
  rw [Tryz.params4] at ht
  obtain rfl | rfl : t = 26 ∨ t = 9 := by simpa using Array.mem_of_getElem? ht
  · exact (show Tryz.prog.wantsStandIn 26 = false by kernel_rfl)
  · exact (show Tryz.prog.wantsStandIn 9 = false by kernel_rfl)

theorem textBack_holds : Rows.TextBackCardSaid :=
  Claim7.holds_tied_plain_at .later [] _ _ _ _ back_said (fun _ h => by cases h) (by kernel_rfl) (fun _ h => by cases h) textBack_row_tie rfl ⟨rfl, rfl⟩ (by kernel_rfl) rfl back_plain (by kernel_rfl)
#print axioms textBack_holds

end Go.Proofs.YtigdaaloagecgaaGreatDoor
