/-
  What the rows' listed variables give the walks. No condition.
-/
import Derived.Test.YtigdaaloagecgaaGreatDoorRows
import Derived.Test.YtigdaaloagecgaaGreatDoorSay
import Derived.Lib.LaidTab
import Derived.Stop.LaidErr
import Derived.LaidSub
import Derived.MakeChecks
import Derived.Shelf.Vars
namespace Go.Proofs.YtigdaaloagecgaaGreatDoor
open Go.RowKit

theorem gES : Tryz.prog.globalNamed "strconv.ErrSyntax" = some 8 := by kernel_rfl
theorem gER : Tryz.prog.globalNamed "strconv.ErrRange" = some 9 := by kernel_rfl
theorem star : "*" ++ "errors.errorString" = "*errors.errorString" := by decide
theorem rowErr (u : TypeId) (h : Tryz.prog.typeName? 3 u = some "*errors.errorString") : u = 169 :=
  typeName_ptr_named (nm := "errors.errorString") (by rw [star]; kernel_rfl) (by kernel_rfl) (by decide) u (by rw [star]; exact h)

theorem libs_of {W : World} (h : laidMetH Tryz.prog Rows.textShowsRow.laid W) (hsh : W.ShapedOpen Tryz.prog) : Libs W := by
  have pick : ∀ (n : String) (d : DataW Unit), (Rows.textShowsRow.laid.filter fun x => x.1 == n) = [(n, d)] → d.handleName?.isNone = true → laidMet Tryz.prog [(n, d)] W := by
    intro n d he hd
    have h1 := laidMetH.filter (fun x => x.1 == n) h
    rw [he, MakeChecks.laidMetH_plain _ _ _ (by simp [hd])] at h1
    exact h1
  have hp := pick "internal/strconv.uint64pow10" (Lib.tabData .u64 Lib.pow10Tab) (by kernel_rfl) (by kernel_rfl)
  have hs := pick "strings.asciiSpace" (Lib.tabData .u8 Lib.asciiSpaceTab) (by kernel_rfl) (by kernel_rfl)
  have he := pick "strconv.ErrSyntax" (.iface "*errors.errorString" (.ptr (.agg [.lit (.string [105, 110, 118, 97, 108, 105, 100, 32, 115, 121, 110, 116, 97, 120])]))) (by kernel_rfl) (by kernel_rfl)
  have hr := pick "strconv.ErrRange" (.iface "*errors.errorString" (.ptr (.agg [.lit (.string [118, 97, 108, 117, 101, 32, 111, 117, 116, 32, 111, 102, 32, 114, 97, 110, 103, 101])]))) (by kernel_rfl) (by kernel_rfl)
  refine ⟨?_, ?_, ?_, ?_, ?_⟩
  · exact Lib.tabIs_of_head (rest := []) gPow (by kernel_rfl) Tryz.underlying132 Tryz.underlying85 (by kernel_rfl) (by kernel_rfl) hp
  · exact Lib.tabIs_of_head (rest := []) gSp (by kernel_rfl) Tryz.underlying99 Tryz.underlying5 (by kernel_rfl) (by kernel_rfl) hs
  · exact cell_of_shapedOpen_int (P := Tryz.prog) (g := 3) (t := 3) (zero := #[.int .i64 0]) hsh (of_decide_eq_true (by kernel_rfl)) (by kernel_rfl) rfl (by kernel_rfl) (by kernel_rfl) Tryz.underlying3
  · obtain ⟨a0, s0, hv0, -, -, -⟩ := laid_sentinel he gES (by kernel_rfl) Tryz.underlying76 rowErr Tryz.underlying169 Tryz.underlying171 rfl rfl Tryz.underlying9 (by kernel_rfl) (by kernel_rfl)
    exact ⟨_, _, by have h0 := World.var?_cell gES hv0 0; simpa using h0⟩
  · obtain ⟨a0, s0, hv0, -, -, -⟩ := laid_sentinel hr gER (by kernel_rfl) Tryz.underlying76 rowErr Tryz.underlying169 Tryz.underlying171 rfl rfl Tryz.underlying9 (by kernel_rfl) (by kernel_rfl)
    exact ⟨_, _, by have h0 := World.var?_cell gER hv0 0; simpa using h0⟩

end Go.Proofs.YtigdaaloagecgaaGreatDoor
