/-
  Whatever graph text.Show is given, it gives what the document's Show gives: the statement TextShowsCardSaid. Conditions: those that the given row and its card print (the listed variables of the library start as its text lays them).
-/
import Derived.Test.YtigdaaloagecgaaGreatDoorCards
import Derived.Test.YtigdaaloagecgaaGreatDoorTie
import Derived.Test.YtigdaaloagecgaaGreatDoorTextShows
import Derived.Test.YtigdaaloagecgaaGreatDoorRead
import Derived.Test.YtigdaaloagecgaaGreatDoorLaid
import Derived.ProofKit
import Derived.OpenShut
import Derived.Carry
import Derived.Lay
import Derived.Deep.DeepHandedRow
import Derived.SevenTiedAt
namespace Go.Proofs.YtigdaaloagecgaaGreatDoor
open Go.ChangeShapes Go.WideShapes Go.ChangeAt Go.RowKit

theorem own : ownKnob Tryz.prog.godebug = none := by kernel_rfl
theorem laidOut : laidOutB Tryz.prog = true := by kernel_rfl
theorem readsG : Tryz.prog.readableRec 26 = true := by kernel_rfl
theorem rowG : 26 < Tryz.prog.types.size := of_decide_eq_true (by kernel_rfl)

set_option maxRecDepth 100000 in
theorem shows_contract (H : Type) (enc : TypeId × Value → H) (W : World) (base : Nat) (args : Array Value) (ds gs : List (DataW H)) (before : List MemPlace)
    (hval : ∀ (j : Nat) t v, Tryz.f3.params[j]? = some t → args[j]? = some v → Value.okWide Tryz.prog W .any base t v)
    (hW : DataW.Whole enc Tryz.prog Tryz.f3.params.toList Rows.textShowsSpec.vars false W args.toList ds gs before) (hL : laidMetH Tryz.prog Rows.textShowsRow.laid W) (hsh : W.ShapedOpen Tryz.prog) :
    Calls Tryz.prog 3 args W fun e W' => ∃ v, e = .returned v ∧ Rows.textShowsSpec.post enc Tryz.prog Tryz.f3 false true false false W args v W' := by
  have hW' := hW
  obtain ⟨p, q, hA0, hV, rfl, hfz, hnd⟩ := hW
  have hA : DataW.TrodAll enc Tryz.prog W 0 (fun _ => true) true Tryz.f3.params.toList args.toList ds p := hA0
  rw [Tryz.params3] at hA hval
  obtain ⟨v0, d0, rfl, rfl, h0⟩ := trodAll_one hA
  obtain ⟨rfl, rfl⟩ := trodVars_none hV
  obtain ⟨s, g, rfl, hg⟩ := read_graph (hval 0 26 v0 rfl rfl) h0
  simp only [List.append_nil] at hW'
  refine (textShows_any s g W hg (libs_of hL hsh)).mono fun e W' ⟨he, hb⟩ => ?_
  subst he
  have hlt : ∀ x ∈ p, x.block < W.heap.size := fun x hx => hW'.lt x hx
  exact ⟨_, rfl, _, _, _, [], p, [], hW', trodAll_mk1 (shut_bool Tryz.underlying4 true), trodAll_mk1 (Below.trod laidOut readsG rowG h0 hb hlt), rfl, hb.frame _, fun h => by cases h⟩

noncomputable def witG : Value := .agg #[.slice none 0 0, .slice none 0 0, .slice none 0 0, .slice none 0 0]
theorem shows_reads (os : Os) {H : Type} (enc : TypeId × Value → H) : ∃ places, DataW.whole enc Tryz.prog ((World.laidAll Tryz.prog os Rows.textShowsRow.laid).forCall (fun _ _ => 0) ⟨#[], #[witG], []⟩).memory Tryz.f3.params.toList Rows.textShowsSpec.vars false #[witG].toList 8 = some ([.agg [.nil, .nil, .nil, .nil]], [], places) :=
  ⟨[], by kernel_rfl⟩
theorem shows_laid (os : Os) : laidMetH Tryz.prog Rows.textShowsRow.laid ((World.laidAll Tryz.prog os Rows.textShowsRow.laid).forCall (fun _ _ => 0) ⟨#[], #[witG], []⟩).memory := by
  rw [MakeChecks.laidMetH_plain _ _ _ (by kernel_rfl)]
  exact laidMet_laidAll _ (by kernel_rfl) (by kernel_rfl)
theorem shows_okB (os : Os) : Input.okWideB Tryz.prog ((World.laidAll Tryz.prog os Rows.textShowsRow.laid).forCall (fun _ _ => 0) ⟨#[], #[witG], []⟩) 3 ⟨#[], #[witG], []⟩ = true := by kernel_rfl
theorem shows_shaped (os : Os) : ((World.laidAll Tryz.prog os Rows.textShowsRow.laid).forCall (fun _ _ => 0) ⟨#[], #[witG], []⟩).Shaped Tryz.prog :=
  World.shaped_of_ZipB (by kernel_rfl) (by kernel_rfl)

set_option maxRecDepth 100000 in
theorem shows_lifted (os : Os) (started : os.Started) (H : Type) (enc : TypeId × Value → H) (F : Stop.Interp) :
    ReturnsInHanded {} Tryz.checked os 3 .any ((OpenSpec.ofChange Rows.textShowsSpec).preRow enc Tryz.prog Tryz.f3 Rows.textShowsRow.domain false Rows.textShowsRow.laid) (((OpenSpec.ofChange Rows.textShowsSpec).at F).post enc Tryz.prog Tryz.f3 false true false false) := by
  obtain ⟨places, hx⟩ := shows_reads os enc
  refine returnsInHanded_of_row (C := Tryz.checked) (s := OpenSpec.ofChange Rows.textShowsSpec) own started (by kernel_rfl) Tryz.func3
    ⟨World.laidAll Tryz.prog os Rows.textShowsRow.laid, fun _ _ => 0, ⟨#[], #[witG], []⟩, World.laidAll_os _ _ _, shows_shaped os, (Input.okWide_of_okWideB (base := 0) (shows_okB os)).1, (Input.okWide_of_okWideB (shows_okB os)).2,
      OpenSpec.preRow_of_cond 8 hx (by kernel_rfl) (fun k hk => by cases hk) (by kernel_rfl) (shows_laid os), by
        simp only [Assume.holds]
        exact ⟨by simp, by simp, by simp, by simp, by simp⟩⟩ ?_
  intro W base args ds gs before hval hW _ _ _ hL hsh _
  exact shows_contract H enc W base args ds gs before hval hW hL hsh

theorem shows_said : Rows.TextShowsSaid :=
  OpenClaim.holds_of_cond 3 Tryz.f3 rfl rfl rfl rfl rfl rfl rfl ⟨rfl, rfl, rfl, rfl, rfl⟩ rfl rfl rfl rfl rfl (by kernel_rfl) Tryz.func3 (by kernel_rfl)
    (of_decide_eq_true (by kernel_rfl)) (by unfold Func.isWrapper; first | (rw [if_pos (by decide +kernel)]; kernel_rfl) | (rw [if_neg (by decide +kernel)]; exact ⟨rfl, rfl⟩))
    (fun os started H enc _ F => by rw [OpenClaim.pre_eq_preRow]; exact shows_lifted os started H enc F)

theorem shows_plain (f : FuncId) (fn : Func) (hf : Tryz.pinned.checked.prog.funcNamed "backwash/backwashlaw23.TextShows" = some f) (hfn : Tryz.pinned.checked.prog.funcs[f]? = some fn) :
    true = Tryz.pinned.checked.prog.looks [] ∧ ∀ (j : Nat) t, fn.params[j]? = some t → Tryz.pinned.checked.prog.wantsStandIn t = false := by
  obtain rfl : f = 3 := Option.some.inj ((show Tryz.prog.funcNamed "backwash/backwashlaw23.TextShows" = some 3 by kernel_rfl).symm.trans hf) |>.symm
  obtain rfl : fn = Tryz.f3 := (Option.some.inj (Tryz.func3.symm.trans hfn)).symm
  refine ⟨by kernel_rfl, fun j t ht => ?_⟩
  rw [Tryz.params3] at ht
  obtain rfl : t = 26 := by simpa using Array.mem_of_getElem? ht
  exact (show Tryz.prog.wantsStandIn 26 = false by kernel_rfl)

theorem textShows_holds : Rows.TextShowsCardSaid :=
  Claim7.holds_tied_plain_at .later [] _ _ _ _ shows_said (fun _ h => by cases h) (by kernel_rfl) (fun _ h => by cases h) textShows_row_tie rfl ⟨rfl, rfl⟩ (by kernel_rfl) rfl shows_plain (by kernel_rfl)
#print axioms textShows_holds

end Go.Proofs.YtigdaaloagecgaaGreatDoor
