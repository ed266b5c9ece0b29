/-
  wire.Uint and wire.Int: their walks. Conditions: what is put has at most a million bytes.
-/
import Derived.Test.YtigdaaloagecgaaGreatDoorSay
import Derived.Laws.BitsLemmas
namespace Go.Proofs.YtigdaaloagecgaaGreatDoor
open Go.RowKit

def Rep.byte : Rep UInt8 where
  k := 1
  R := fun _ _ c x => c 0 = some (.int .u8 x.toNat)
  keep := fun _ h => h
  more := fun _ h => h

/-- a number in pieces of seven bits -/
def uv (n : Nat) : List UInt8 := if h : n < 128 then [UInt8.ofNat n] else UInt8.ofNat (n % 128 + 128) :: uv (n / 128)
termination_by n
theorem uv_len (n : Nat) (k : Nat) (h : n < 128 ^ k) : (uv n).length ≤ k + 1 := by
  induction k generalizing n with
  | zero => rw [uv]; simp at h; rw [dif_pos (by omega)]; simp
  | succ k ih =>
    rw [uv]
    split
    · simp
    · have := ih (n / 128) (by rw [Nat.pow_succ] at h; omega)
      simp; omega
theorem uv_len64 (n : Nat) (h : n < 18446744073709551616) : (uv n).length ≤ 11 := uv_len n 10 (by omega)
theorem uv_lo {n : Nat} (h : n < 128) : uv n = [UInt8.ofNat n] := by rw [uv, dif_pos h]
theorem uv_hi {n : Nat} (h : 128 ≤ n) : uv n = UInt8.ofNat (n % 128 + 128) :: uv (n / 128) := by rw [uv, dif_neg (by omega)]
theorem or128 (m : Nat) (h : m < 256) : bits .or .u8 (m : Int) 128 = ((m % 128 + 128 : Nat) : Int) := by
  have : ∀ m : Fin 256, bits .or .u8 ((m.val : Nat) : Int) 128 = ((m.val % 128 + 128 : Nat) : Int) := by decide +kernel
  exact this ⟨m, h⟩

set_option maxHeartbeats 1000000 in
theorem hiByte (k : Nat) : Value.int .u8 (bits .or .u8 ((k : Int) % 256) 128) = Value.int .u8 ((UInt8.ofNat (k % 128 + 128)).toNat : Int) := by
  have h1 : ((k : Int) % 256) = ((k % 256 : Nat) : Int) := by omega
  rw [h1, or128 _ (by omega)]
  congr 1
  rw [UInt8.toNat_ofNat']
  omega
theorem loByte (k : Nat) (h : k < 128) : Value.int .u8 (k : Int) = Value.int .u8 ((UInt8.ofNat k).toNat : Int) := by
  congr 1
  rw [UInt8.toNat_ofNat']
  omega

set_option maxRecDepth 100000 in
theorem wireUint_any (bk o n c : Nat) (l : List UInt8) (v : Nat) (w : World) (h : Arr Rep.byte w w.heap.size (some ⟨bk, o, none⟩) n l) (hn : n < 1000000) (hv : Hid (v < 18446744073709551616)) :
    Calls Tryz.prog 50 #[.slice (some ⟨bk, o, none⟩) n c, .int .u64 v] w fun e w' => ∃ g m cap, e = .returned (.slice (some ⟨g, 0, none⟩) m cap) ∧ m = (l ++ uv v).length ∧ Arr Rep.byte w' w'.heap.size (some ⟨g, 0, none⟩) m (l ++ uv v) ∧ Below w.heap.size w w' := by
  obtain ⟨i0, hi, hz0, hz1, hz2⟩ := info_parts Tryz.infoByte
  go_enter Tryz.func50, Tryz.ntmps50
  have hl := h.len
  have hcell : ∀ (j : Nat) u, (Lib.byteCells l)[j]? = some u → w.cell? ⟨bk, o + j, none⟩ = some u := by
    intro j u hu
    simp only [Lib.byteCells, List.getElem?_map] at hu
    cases hx : l[j]? with
    | none => rw [hx] at hu; cases hu
    | some x =>
      rw [hx] at hu; injection hu with hu; subst hu
      obtain ⟨b', o', e, hb, hr⟩ := h.2 (by have := (List.getElem?_eq_some_iff.1 hx).1; omega)
      injection e with e; injection e with e1 e2; subst e1; subst e2
      simpa [Rep.byte] using hr j x hx
  have hbk : ∀ (j : Nat) u, (Lib.byteCells l)[j]? = some u → bk < w.heap.size := fun j u hu => World.block_lt_of_cell? w _ (hcell j u hu)
  have HC := Lib.hid (And.intro hcell hbk)
  have HL := Lib.hid hl
  clear hcell hbk hl h
  go_wp2_with (at_builtin; refine wpList_append_own _ rfl (.tmp 6) (.tmp 7) 36 rfl w.heap.size 5 i0 (.int .u8 0) 1 1 Tryz.underlying36 hi hz0 hz1 hz2 rfl (by decide) _ _ _ rfl (World.ownsRow_made w #[] 0 (Nat.le_refl _) (by simp [maxLen]) rfl) ⟨bk, o, none⟩ n c (Lib.byteCells l) rfl ?c0 ?c1 ?c2 ?c3 ?c4 ?c5 ?_)
  case c0 => rw [byteCells_len, HL.out]; simp
  case c1 =>
    intro j u hu
    rw [Addr.lit_add, World.cell?_alloc_lt _ _ _ (HC.out.2 j u hu)]
    exact HC.out.1 j u hu
  case c2 => intro u hu; simp only [Lib.byteCells, List.mem_map] at hu; obtain ⟨x, _, rfl⟩ := hu; rfl
  case c3 => unfold maxLen; omega
  case c4 => omega
  case c5 => simp
  intro v1 w1 hown hgrow _
  have hb1 : Below w.heap.size w w1 := ((Below.refl _ w).alloc (Nat.le_refl _) _).grown hgrow (by simp) (fun k hk => by simp [Value.ownBlock] at hk; omega)
  clear hgrow
  have hown2 : w1.ownsRow w.heap.size 5 1 v1 (l ++ []).length (Lib.byteCells (l ++ [])) := by simpa [HL.out] using hown
  clear hown
  go_wp2_with fail
  go_loopw [1, 5] (fun i s wr => ∃ (k : Nat) (pre : List UInt8), i = .int .u64 k ∧ Hid (k < 18446744073709551616) ∧ Hid (pre ++ uv k = uv v) ∧ pre.length ≤ 11 ∧ wr.ownsRow w.heap.size 5 1 s (l ++ pre).length (Lib.byteCells (l ++ pre)) ∧ Below w.heap.size w wr) (fun i _ _ => (intOf i).toNat)
  case atStart => exact ⟨v, [], rfl, hv, rfl, by simp, hown2, hb1⟩
  case round =>
    clear hown2 hb1
    obtain ⟨k, pre, rfl, hk, hpre, hp11, hown, hbl⟩ := hrel
    have hln : l.length ≤ n ∧ n ≤ l.length := by have := HL.out; omega
    obtain ⟨hln1, hln2⟩ := hln
    by_cases hlt : 128 ≤ k
    · have hk' : Hid (k / 128 < 18446744073709551616) := by
        show k / 128 < 18446744073709551616
        have := hk.out; omega
      have hpre' : Hid ((pre ++ [UInt8.ofNat (k % 128 + 128)]) ++ uv (k / 128) = uv v) := by
        show _ = _
        rw [← hpre.out, uv_hi hlt]; simp
      have hp' : pre.length + 1 ≤ 11 := by
        have h1 := congrArg List.length hpre.out
        have h2 := uv_len64 v hv.out
        have h3 : 1 ≤ (uv (k / 128)).length := by rw [uv]; split <;> simp
        rw [uv_hi hlt] at h1
        simp at h1; omega
      have HW := Lib.hid (hiByte k)
      have hbs := hbl.size
      go_wp2_with (at_builtin; refine wpList_append_own _ rfl (.tmp 11) (.tmp 15) 36 rfl w.heap.size 5 i0 (.int .u8 0) 1 1 Tryz.underlying36 hi hz0 hz1 hz2 rfl (by decide) _ _ _ rfl (hown.alloc _) ⟨wr.heap.size, 0, none⟩ 1 1 [.int .u8 (bits .or .u8 ((k : Int) % 256) 128)] rfl ?d0 ?d1 ?d2 ?d3 ?d4 ?d5 ?_)
      case d0 => rfl
      case d1 =>
        intro j u hj
        match j, hj with
        | 0, hj => simp at hj; subst hj; simp [Addr.add]
      case d2 => intro u hu; simp at hu; subst hu; rfl
      case d3 => simp [maxLen]; omega
      case d4 => simp; omega
      case d5 => simp; omega
      intro v2 w2 hown2 hgrow _
      have hb2 : Below w.heap.size w w2 := (hbl.alloc hbs _).grown hgrow (by simp; omega) (fun k hk => (hown.lt k hk).1)
      have ho2 : w2.ownsRow w.heap.size 5 1 v2 (l ++ (pre ++ [UInt8.ofNat (k % 128 + 128)])).length (Lib.byteCells (l ++ (pre ++ [UInt8.ofNat (k % 128 + 128)]))) := by
        have e : Lib.byteCells (l ++ (pre ++ [UInt8.ofNat (k % 128 + 128)])) = Lib.byteCells (l ++ pre) ++ [.int .u8 (bits .or .u8 ((k : Int) % 256) 128)] := by
          rw [HW.out, ← List.append_assoc, byteCells_append]; rfl
        rw [e]
        simpa [Nat.add_assoc] using hown2
      clear hown2 hgrow hown hbl hpre hk
      go_wp2_with fail
      go_roundw
      case rel => exact ⟨k / 128, _, by first | rfl | (simp; done) | skip, hk', hpre', by simp; omega, ho2, hb2⟩
      case measure => simp [intOf]; omega
    · have HW := Lib.hid (loByte k (by omega))
      have HP := Lib.hid (show pre ++ [UInt8.ofNat k] = uv v by rw [← hpre.out, uv_lo (by omega)])
      have hbs := hbl.size
      go_wp2_with (at_builtin; refine wpList_append_own _ rfl (.tmp 19) (.tmp 22) 36 rfl w.heap.size 5 i0 (.int .u8 0) 1 1 Tryz.underlying36 hi hz0 hz1 hz2 rfl (by decide) _ _ _ rfl (hown.alloc _) ⟨wr.heap.size, 0, none⟩ 1 1 [.int .u8 (k : Int)] rfl ?e0 ?e1 ?e2 ?e3 ?e4 ?e5 ?_)
      case e0 => rfl
      case e1 =>
        intro j u hj
        match j, hj with
        | 0, hj => simp at hj; subst hj; simp [Addr.add]
      case e2 => intro u hu; simp at hu; subst hu; rfl
      case e3 => simp [maxLen]; omega
      case e4 => simp; omega
      case e5 => simp; omega
      intro v2 w2 hown2 hgrow _
      have hb2 : Below w.heap.size w w2 := (hbl.alloc hbs _).grown hgrow (by simp; omega) (fun k hk => (hown.lt k hk).1)
      have ho2 : w2.ownsRow w.heap.size 5 1 v2 (l ++ uv v).length (Lib.byteCells (l ++ uv v)) := by
        have e : Lib.byteCells (l ++ uv v) = Lib.byteCells (l ++ pre) ++ [.int .u8 (k : Int)] := by
          rw [HW.out, ← HP.out, ← List.append_assoc, byteCells_append]; rfl
        rw [e, ← HP.out]
        simpa [Nat.add_assoc] using hown2
      clear hown2 hgrow hown hbl hpre hk
      obtain ⟨g, cap, cur, rfl, hg1, hg2, hg3, hg4, hg5, hg6⟩ : ∃ g cap cur, v2 = .slice (some ⟨g, 0, none⟩) (l ++ uv v).length cap ∧ w.heap.size ≤ g ∧ w2.heap[g]? = some (.cells cur 5 (0, 0)) ∧ (l ++ uv v).length ≤ cap ∧ cap ≤ maxLen ∧ cur.size = cap * 1 ∧ cur.toList.take ((l ++ uv v).length * 1) = Lib.byteCells (l ++ uv v) := by
        rcases ho2.2 with ⟨_, h0⟩ | ⟨g, cap, cur, hv, r⟩
        · rw [← HP.out] at h0; simp at h0
        · exact ⟨g, cap, cur, hv, r⟩
      have HR : Hid (Arr Rep.byte w2 w2.heap.size (some ⟨g, 0, none⟩) (l ++ uv v).length (l ++ uv v)) := by
        refine ⟨rfl, fun _ => ⟨g, 0, rfl, (ho2.lt g rfl).2, fun j x hx => ?_⟩⟩
        have h1 := ho2.cells (g := g) rfl j (.int .u8 x.toNat) (by simp only [Lib.byteCells, List.getElem?_map, hx]; rfl)
        rw [Addr.lit_add] at h1
        simpa [Rep.byte] using h1
      clear ho2 hg2 hg5 hg6
      generalize hq : l ++ uv v = q at HR
      have HQ := Lib.hid hq
      clear hq
      go_wp2_with fail
      go_ret
      exact ⟨g, _, cap, rfl, by rw [HQ.out], by rw [HQ.out]; exact HR.out, hb2⟩

/-- a number with a sign, as one without -/
def zz (v : Int) : Nat := (bits BinOp.xor IntKind.u64 (IntKind.u64.wrap (IntKind.u64.wrap v * 2)) (IntKind.u64.wrap (v / 9223372036854775808))).toNat
theorem zz_eq (v : Int) : bits BinOp.xor IntKind.u64 (IntKind.u64.wrap (IntKind.u64.wrap v * 2)) (IntKind.u64.wrap (v / 9223372036854775808)) = (zz v : Int) ∧ Hid (zz v < 18446744073709551616) := by
  unfold zz
  generalize IntKind.u64.wrap (IntKind.u64.wrap v * 2) = a
  generalize IntKind.u64.wrap (v / 9223372036854775808) = b
  have h : ∃ x : Int, bits BinOp.xor IntKind.u64 a b = IntKind.u64.wrap x := ⟨_, rfl⟩
  obtain ⟨x, hx⟩ := h
  rw [hx, IntKind.wrap_u64]
  refine ⟨by omega, ?_⟩
  show _ < _
  omega

set_option maxRecDepth 100000 in
theorem wireInt_any (bk o n c : Nat) (l : List UInt8) (v : Int) (w : World) (h : Arr Rep.byte w w.heap.size (some ⟨bk, o, none⟩) n l) (hn : n < 1000000) :
    Calls Tryz.prog 51 #[.slice (some ⟨bk, o, none⟩) n c, .int .i64 v] w fun e w' => ∃ g m cap, e = .returned (.slice (some ⟨g, 0, none⟩) m cap) ∧ m = (l ++ uv (zz v)).length ∧ Arr Rep.byte w' w'.heap.size (some ⟨g, 0, none⟩) m (l ++ uv (zz v)) ∧ Below w.heap.size w w' := by
  have HZ := Lib.hid (zz_eq v)
  have HU := Lib.hid (wireUint_any bk o n c l (zz v) w h hn HZ.out.2)
  clear h hn
  go_enter Tryz.func51, Tryz.ntmps51
  go_wp2_with fail
  rw [HZ.out.1]
  refine HU.out.mono ?_
  rintro e w1 ⟨g, m, cap, rfl, hm, hr, hb⟩
  have HM := Lib.hid (And.intro hm hr)
  clear hm hr
  go_wp2_with fail
  go_ret
  exact ⟨g, m, cap, rfl, HM.out.1, HM.out.2, hb⟩

end Go.Proofs.YtigdaaloagecgaaGreatDoor
