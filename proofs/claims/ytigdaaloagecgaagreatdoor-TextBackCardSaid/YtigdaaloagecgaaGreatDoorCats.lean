/-
  Lines put together by +: what each step gives. No condition of a program.
-/
import Derived.Test.YtigdaaloagecgaaGreatDoorShow
import Derived.Test.YtigdaaloagecgaaGreatDoorNum
namespace Go.Proofs.YtigdaaloagecgaaGreatDoor
open Go.RowKit

theorem lineOf3 (a b c : List UInt8) : lineOf [a, b, c] = a ++ [32] ++ b ++ [32] ++ c ++ [10] := by simp [lineOf, Lib.join_cons, Lib.joinTail]
theorem lineOf4 (a b c d : List UInt8) : lineOf [a, b, c, d] = a ++ [32] ++ b ++ [32] ++ c ++ [32] ++ d ++ [10] := by simp [lineOf, Lib.join_cons, Lib.joinTail]
theorem lineOf5 (a b c d e : List UInt8) : lineOf [a, b, c, d, e] = a ++ [32] ++ b ++ [32] ++ c ++ [32] ++ d ++ [32] ++ e ++ [10] := by simp [lineOf, Lib.join_cons, Lib.joinTail]

theorem cats_scope (S P Q : List UInt8) (hS : S.length ≤ 1000000) (hP : P.length ≤ 21) (hQ : Q.length ≤ 21) : ∃ A1 A2 A3 A4 S' : List UInt8,
    (∀ W : World, (Op.stringOp .add ⟨#[115, 99, 111, 112, 101, 32]⟩ (bs P)).run Tryz.prog W = .ok (.string (bs A1)) W) ∧
    (∀ W : World, (Op.stringOp .add (bs A1) ⟨#[32]⟩).run Tryz.prog W = .ok (.string (bs A2)) W) ∧
    (∀ W : World, (Op.stringOp .add (bs A2) (bs Q)).run Tryz.prog W = .ok (.string (bs A3)) W) ∧
    (∀ W : World, (Op.stringOp .add (bs A3) ⟨#[10]⟩).run Tryz.prog W = .ok (.string (bs A4)) W) ∧
    (∀ W : World, (Op.stringOp .add (bs S) (bs A4)).run Tryz.prog W = .ok (.string (bs S')) W) ∧ Hid (S' = S ++ lineOf [wScope, P, Q]) :=
  ⟨[115, 99, 111, 112, 101, 32] ++ P, [115, 99, 111, 112, 101, 32] ++ P ++ [32], [115, 99, 111, 112, 101, 32] ++ P ++ [32] ++ Q, [115, 99, 111, 112, 101, 32] ++ P ++ [32] ++ Q ++ [10], _,
    fun W => run_add_l _ _ (by simp; omega) W, fun W => run_add_r _ _ (by simp; omega) W, fun W => run_add _ _ (by simp; omega) W, fun W => run_add_r _ _ (by simp; omega) W, fun W => run_add _ _ (by simp; omega) W,
    by show _ = _; rw [lineOf3]; simp [wScope]⟩
theorem cats_ins (S P Q : List UInt8) (hS : S.length ≤ 1000000) (hP : P.length ≤ 21) (hQ : Q.length ≤ 21) : ∃ A1 A2 A3 A4 S' : List UInt8,
    (∀ W : World, (Op.stringOp .add ⟨#[105, 110, 115, 32]⟩ (bs P)).run Tryz.prog W = .ok (.string (bs A1)) W) ∧
    (∀ W : World, (Op.stringOp .add (bs A1) ⟨#[32]⟩).run Tryz.prog W = .ok (.string (bs A2)) W) ∧
    (∀ W : World, (Op.stringOp .add (bs A2) (bs Q)).run Tryz.prog W = .ok (.string (bs A3)) W) ∧
    (∀ W : World, (Op.stringOp .add (bs A3) ⟨#[10]⟩).run Tryz.prog W = .ok (.string (bs A4)) W) ∧
    (∀ W : World, (Op.stringOp .add (bs S) (bs A4)).run Tryz.prog W = .ok (.string (bs S')) W) ∧ Hid (S' = S ++ lineOf [wIns, P, Q]) :=
  ⟨[105, 110, 115, 32] ++ P, [105, 110, 115, 32] ++ P ++ [32], [105, 110, 115, 32] ++ P ++ [32] ++ Q, [105, 110, 115, 32] ++ P ++ [32] ++ Q ++ [10], _,
    fun W => run_add_l _ _ (by simp; omega) W, fun W => run_add_r _ _ (by simp; omega) W, fun W => run_add _ _ (by simp; omega) W, fun W => run_add_r _ _ (by simp; omega) W, fun W => run_add _ _ (by simp; omega) W,
    by show _ = _; rw [lineOf3]; simp [wIns]⟩
theorem cats_node (S M P Q : List UInt8) (hS : S.length ≤ 1000000) (hM : M.length ≤ 21) (hP : P.length ≤ 21) (hQ : Q.length ≤ 21) : ∃ A1 A2 A3 A4 A5 A6 S' : List UInt8,
    (∀ W : World, (Op.stringOp .add ⟨#[110, 111, 100, 101, 32]⟩ (bs M)).run Tryz.prog W = .ok (.string (bs A1)) W) ∧
    (∀ W : World, (Op.stringOp .add (bs A1) ⟨#[32]⟩).run Tryz.prog W = .ok (.string (bs A2)) W) ∧
    (∀ W : World, (Op.stringOp .add (bs A2) (bs P)).run Tryz.prog W = .ok (.string (bs A3)) W) ∧
    (∀ W : World, (Op.stringOp .add (bs A3) ⟨#[32]⟩).run Tryz.prog W = .ok (.string (bs A4)) W) ∧
    (∀ W : World, (Op.stringOp .add (bs A4) (bs Q)).run Tryz.prog W = .ok (.string (bs A5)) W) ∧
    (∀ W : World, (Op.stringOp .add (bs A5) ⟨#[10]⟩).run Tryz.prog W = .ok (.string (bs A6)) W) ∧
    (∀ W : World, (Op.stringOp .add (bs S) (bs A6)).run Tryz.prog W = .ok (.string (bs S')) W) ∧ Hid (S' = S ++ lineOf [wNode, M, P, Q]) :=
  ⟨[110, 111, 100, 101, 32] ++ M, [110, 111, 100, 101, 32] ++ M ++ [32], [110, 111, 100, 101, 32] ++ M ++ [32] ++ P, [110, 111, 100, 101, 32] ++ M ++ [32] ++ P ++ [32], [110, 111, 100, 101, 32] ++ M ++ [32] ++ P ++ [32] ++ Q, [110, 111, 100, 101, 32] ++ M ++ [32] ++ P ++ [32] ++ Q ++ [10], _,
    fun W => run_add_l _ _ (by simp; omega) W, fun W => run_add_r _ _ (by simp; omega) W, fun W => run_add _ _ (by simp; omega) W, fun W => run_add_r _ _ (by simp; omega) W, fun W => run_add _ _ (by simp; omega) W, fun W => run_add_r _ _ (by simp; omega) W, fun W => run_add _ _ (by simp; omega) W,
    by show _ = _; rw [lineOf4]; simp [wNode]⟩
theorem cats_edge (S P Q R : List UInt8) (hS : S.length ≤ 1000000) (hP : P.length ≤ 21) (hQ : Q.length ≤ 21) (hR : R.length ≤ 21) : ∃ A1 A2 A3 A4 A5 S1 S2 S3 : List UInt8,
    (∀ W : World, (Op.stringOp .add ⟨#[101, 100, 103, 101, 32]⟩ (bs P)).run Tryz.prog W = .ok (.string (bs A1)) W) ∧
    (∀ W : World, (Op.stringOp .add (bs A1) ⟨#[32]⟩).run Tryz.prog W = .ok (.string (bs A2)) W) ∧
    (∀ W : World, (Op.stringOp .add (bs A2) (bs Q)).run Tryz.prog W = .ok (.string (bs A3)) W) ∧
    (∀ W : World, (Op.stringOp .add (bs A3) ⟨#[32]⟩).run Tryz.prog W = .ok (.string (bs A4)) W) ∧
    (∀ W : World, (Op.stringOp .add (bs A4) (bs R)).run Tryz.prog W = .ok (.string (bs A5)) W) ∧
    (∀ W : World, (Op.stringOp .add (bs S) (bs A5)).run Tryz.prog W = .ok (.string (bs S1)) W) ∧
    (∀ W : World, (Op.stringOp .add (bs S1) ⟨#[32, 107, 101, 121, 10]⟩).run Tryz.prog W = .ok (.string (bs S2)) W) ∧
    (∀ W : World, (Op.stringOp .add (bs S1) ⟨#[32, 112, 105, 112, 101, 10]⟩).run Tryz.prog W = .ok (.string (bs S3)) W) ∧
    Hid (S2 = S ++ lineOf [wEdge, P, Q, R, wKey] ∧ S3 = S ++ lineOf [wEdge, P, Q, R, wPipe]) :=
  ⟨[101, 100, 103, 101, 32] ++ P, [101, 100, 103, 101, 32] ++ P ++ [32], [101, 100, 103, 101, 32] ++ P ++ [32] ++ Q, [101, 100, 103, 101, 32] ++ P ++ [32] ++ Q ++ [32], [101, 100, 103, 101, 32] ++ P ++ [32] ++ Q ++ [32] ++ R, S ++ ([101, 100, 103, 101, 32] ++ P ++ [32] ++ Q ++ [32] ++ R), _, _,
    fun W => run_add_l _ _ (by simp; omega) W, fun W => run_add_r _ _ (by simp; omega) W, fun W => run_add _ _ (by simp; omega) W, fun W => run_add_r _ _ (by simp; omega) W, fun W => run_add _ _ (by simp; omega) W, fun W => run_add _ _ (by simp; omega) W,
    fun W => run_add_r _ [32, 107, 101, 121, 10] (by simp; omega) W, fun W => run_add_r _ [32, 112, 105, 112, 101, 10] (by simp; omega) W,
    by show _ ∧ _; rw [lineOf5, lineOf5]; constructor <;> simp [wEdge, wKey, wPipe]⟩

end Go.Proofs.YtigdaaloagecgaaGreatDoor
