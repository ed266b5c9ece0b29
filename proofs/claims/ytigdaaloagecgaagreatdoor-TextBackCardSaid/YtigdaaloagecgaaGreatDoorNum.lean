/-
  backwashref23's size and num: their walks. No condition.
-/
import Derived.Test.YtigdaaloagecgaaGreatDoorShowSt
import Derived.Laws.Runes
namespace Go.Proofs.YtigdaaloagecgaaGreatDoor
open Go.RowKit

theorem enc_digit (d : Nat) (h : d < 10) : Utf8.encode (48 + (d : Int)) = bs [UInt8.ofNat (48 + d)] := by
  match d, h with
  | 0, _ | 1, _ | 2, _ | 3, _ | 4, _ | 5, _ | 6, _ | 7, _ | 8, _ | 9, _ => decide +kernel
def dig1 (v : Nat) : List UInt8 := [UInt8.ofNat (48 + v % 10)]
theorem enc1 (v : Nat) : Utf8.encode (48 + (v : Int) % 10) = bs (dig1 v) := by
  have := enc_digit (v % 10) (by omega)
  rw [Int.natCast_emod] at this
  exact this
theorem dec_len : ∀ (k v : Nat), v < 10 ^ k → (Lib.decDigits v).length ≤ k + 1
  | 0, v, h => by rw [Lib.decDigits_one (by simp at h; omega)]; simp
  | k + 1, v, h => by
    by_cases h' : v < 10
    · rw [Lib.decDigits_one h']; simp
    · rw [Lib.decDigits, dif_neg h']
      have := dec_len k (v / 10) (by rw [Nat.pow_succ] at h; omega)
      simp; omega
theorem dec_len64 (v : Nat) (h : v < 18446744073709551616) : (Lib.decDigits v).length ≤ 21 := dec_len 20 v (by omega)

set_option maxHeartbeats 1000000 in
set_option maxRecDepth 100000 in
theorem size_any : ∀ (v : Nat) (w : World), v < 18446744073709551616 → Calls Tryz.prog 38 #[.int .u64 v] w fun e w' => e = .returned (.string (bs (Lib.decDigits v))) ∧ w = w' := by
  intro v
  induction v using Nat.strongRecOn with
  | _ v ih =>
  intro w hv
  by_cases h : v < 10
  · have hd := Lib.hid (Lib.decDigits_one h)
    clear ih hv
    go_enter Tryz.func38, Tryz.ntmps38
    go_wp2_with fail
    go_ret
    exact ⟨by rw [hd.out, ← enc_digit v h]; rfl, rfl⟩
  · have hd := Lib.hid (show Lib.decDigits v = Lib.decDigits (v / 10) ++ dig1 v by rw [Lib.decDigits, dif_neg h]; rfl)
    have hl := dec_len64 (v / 10) (by omega)
    have hadd := fun W : World => run_add (P := Tryz.prog) (Lib.decDigits (v / 10)) (dig1 v) (by simp [dig1]; omega) W
    have hconv : ∀ W : World, (convert 21 9 (.int .i32 (48 + (v : Int) % 10))).run Tryz.prog W = .ok (.string (bs (dig1 v))) W := fun W => by rw [run_convert_int_string W 21 9 .i32 _ (by kernel_rfl) Tryz.underlying9, enc1]
    have hi := ih (v / 10) (by omega) w (by omega)
    have HI := Lib.hid hi
    have HV : Hid (v < 18446744073709551616) := hv
    clear ih hl hv hi
    generalize Lib.decDigits (v / 10) ++ dig1 v = R at hd hadd
    generalize Lib.decDigits (v / 10) = D at HI hadd
    go_enter Tryz.func38, Tryz.ntmps38
    go_wp2_with fail
    rw [show IntKind.u64.wrap ((v : Int) / 10) = ((v / 10 : Nat) : Int) by rw [IntKind.wrap_u64]; have := HV.out; omega]
    refine HI.out.mono ?_
    rintro e w' ⟨rfl, rfl⟩
    go_wp2_with fail
    go_ret
    exact ⟨by rw [hd.out]; rfl, rfl⟩

set_option maxHeartbeats 1000000 in
set_option maxRecDepth 100000 in
theorem refNum_any (n : Int) (hn : I64 n) (w : World) : Calls Tryz.prog 20 #[.int .i64 n] w fun e w' => e = .returned (.string (bs (Lib.itoa n))) ∧ w = w' := by
  have HN := Lib.hid hn
  unfold I64 at hn
  by_cases h : n < 0
  · have hd := Lib.hid (show Lib.itoa n = [45] ++ Lib.decDigits n.natAbs by unfold Lib.itoa; rw [if_pos h]; rfl)
    have hl := dec_len64 n.natAbs (by omega)
    have hadd := fun W : World => run_add_l (P := Tryz.prog) [45] (Lib.decDigits n.natAbs) (by simp; omega) W
    have HS := Lib.hid (size_any n.natAbs w (by omega))
    generalize [45] ++ Lib.decDigits n.natAbs = R at hd hadd
    generalize Lib.decDigits n.natAbs = D at HS hadd
    clear hl hn
    go_enter Tryz.func20, Tryz.ntmps20
    go_wp2_with fail
    rw [show IntKind.u64.wrap (-IntKind.u64.wrap n) = (n.natAbs : Int) by rw [IntKind.wrap_u64, IntKind.wrap_u64]; have := HN.out.1; omega]
    refine HS.out.mono ?_
    rintro e w' ⟨rfl, rfl⟩
    go_wp2_with fail
    go_ret
    exact ⟨by rw [hd.out]; rfl, rfl⟩
  · have hd := Lib.hid (show Lib.itoa n = Lib.decDigits n.natAbs by unfold Lib.itoa; rw [if_neg h, show n.natAbs = n.toNat by omega])
    have HS := Lib.hid (size_any n.natAbs w (by omega))
    clear hn
    go_enter Tryz.func20, Tryz.ntmps20
    go_wp2_with fail
    rw [show IntKind.u64.wrap n = (n.natAbs : Int) by rw [IntKind.wrap_u64]; have := HN.out; unfold I64 at this; omega]
    refine HS.out.mono ?_
    rintro e w' ⟨rfl, rfl⟩
    go_wp2_with fail
    go_ret
    exact ⟨by rw [hd.out]; rfl, rfl⟩

end Go.Proofs.YtigdaaloagecgaaGreatDoor
