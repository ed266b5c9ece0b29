/-
  backwashref23.Show: its walk. No condition.
-/
import Derived.Test.YtigdaaloagecgaaGreatDoorCats
import Derived.Test.YtigdaaloagecgaaGreatDoorRefFits
namespace Go.Proofs.YtigdaaloagecgaaGreatDoor
open Go.RowKit

theorem bad_kind {g : Gr} {k : Nat} {x : Nd} (hx : g.nodes[k]? = some x) (h : ¬ (1 ≤ x.kind ∧ x.kind ≤ 15)) : badNodes g = true := by
  unfold badNodes
  rw [List.any_eq_true]
  refine ⟨x, List.mem_of_getElem? hx, ?_⟩
  have : nmOK kindsL x.kind = false := by simp [nmOK, kindsL_len]; omega
  simp [nodeBadNm, this]
theorem bad_op {g : Gr} {k m : Nat} {x : Nd} {y : Ins} (hx : g.nodes[k]? = some x) (hy : x.prog[m]? = some y) (h : ¬ (1 ≤ y.op ∧ y.op ≤ 16)) : badNodes g = true := by
  unfold badNodes
  rw [List.any_eq_true]
  refine ⟨x, List.mem_of_getElem? hx, ?_⟩
  have h1 : insBadNm y = true := by
    have : nmOK codesL y.op = false := by simp [nmOK, codesL_len]; omega
    simp [insBadNm, this]
  have h2 : x.prog.any insBadNm = true := by rw [List.any_eq_true]; exact ⟨y, List.mem_of_getElem? hy, h1⟩
  simp [nodeBadNm, h2]
/-- an operation under another name: 'go_region_held3' then does not take it first -/
abbrev later (o : Op) : Op := o
theorem refKinds_at {j : Nat} {nm : List UInt8} (h : (nameCells kindsL)[j]? = some (.string (bs nm))) (w : World) : Calls Tryz.prog 21 #[] w fun e w' => ∃ bk, e = .returned (.slice (some ⟨bk, 0, none⟩) 15 15) ∧ w'.cell? ⟨bk, j, none⟩ = some (.string (bs nm)) ∧ Below w.heap.size w w' :=
  (refKinds_any w).mono fun e w' ⟨he, hw⟩ => ⟨_, he, by rw [hw, World.cell?_alloc_new]; exact h, by rw [hw]; exact (Below.refl _ _).alloc (Nat.le_refl _) _⟩
theorem refCodes_at {j : Nat} {nm : List UInt8} (h : (nameCells codesL)[j]? = some (.string (bs nm))) (w : World) : Calls Tryz.prog 22 #[] w fun e w' => ∃ bk, e = .returned (.slice (some ⟨bk, 0, none⟩) 16 16) ∧ w'.cell? ⟨bk, j, none⟩ = some (.string (bs nm)) ∧ Below w.heap.size w w' :=
  (refCodes_any w).mono fun e w' ⟨he, hw⟩ => ⟨_, he, by rw [hw, World.cell?_alloc_new]; exact h, by rw [hw]; exact (Below.refl _ _).alloc (Nat.le_refl _) _⟩

set_option maxHeartbeats 1600000 in
set_option maxRecDepth 100000 in
theorem refShow_any (s : GS) (g : Gr) (w : World) (h : GrAt w w.heap.size s g) :
    Calls Tryz.prog 8 #[s.val] w fun e w' => e = .returned (.tuple #[.string (bs (showSpec g).1), .int .i64 (showSpec g).2]) ∧ Below w.heap.size w w' := by
  have HF := fun (o : Obj) => refFits_any s g (w.alloc o) ((h.keep (Same.alloc (Nat.le_refl _) o)).more (by simp))
  obtain ⟨Pa, pn, pc, Ba, bn, bc, Na, nn, nc, Ea, en, ec⟩ := s
  obtain ⟨h1, h2, h3, h4, c1, c2, c3, c4, m1, m2, m3, m4⟩ := h
  simp only at h1 h2 h3 h4 c1 c2 c3 c4 m1 m2 m3 m4
  unfold maxLen at m1 m2 m3 m4
  have HL := Lib.hid (And.intro h1.len (And.intro h2.len (And.intro h3.len h4.len)))
  unfold GS.val at HF ⊢
  have HFF := Lib.hid HF
  clear HF
  go_enter Tryz.func8, Tryz.ntmps8
  go_wp2_with fail
  refine (HFF.out _).mono ?_
  rintro e w1 ⟨rfl, hb1⟩
  have hbx : w1.heap[w.heap.size]? = some (.cells #[.slice Pa pn pc, .slice Ba bn bc, .slice Na nn nc, .slice Ea en ec] 26 (0, 0)) := (hb1.block _ (by simp)).trans (heap_alloc_new _ _ _)
  have hbw := (((Below.refl w.heap.size w).alloc (Nat.le_refl _) (.cells #[.slice Pa pn pc, .slice Ba bn bc, .slice Na nn nc, .slice Ea en ec] 26)).trans (hb1.mono (by simp)))
  clear hb1 HFF
  have hszw := heap_lt hbx
  by_cases hfit : fitsB g = true
  · have FG := Lib.hid (fitG hfit)
    rw [hfit]
    obtain ⟨l1, l2, l3, l4⟩ := HL.out
    have hpn := FG.out.lo
    have hpm := FG.out.hi
    have hbn := FG.out.same
    rw [l1] at hpn hpm hbn
    rw [l2] at hbn
    have M1 := Lib.hid (And.intro h1 (And.intro h2 (And.intro h3 h4)))
    have e0 : w1.cell? ⟨w.heap.size, 0, none⟩ = some (.slice Pa pn pc) := by rw [Lib.cell_of_heap hbx]; rfl
    have e1 : w1.cell? ⟨w.heap.size, 1, none⟩ = some (.slice Ba bn bc) := by rw [Lib.cell_of_heap hbx]; rfl
    have hbn1 : bn ≤ pn ∧ pn ≤ bn := by omega
    have HBX := Lib.hid (And.intro hbx hbw)
    clear h1 h2 h3 h4 l1 l2 l3 l4 hbn hbx hbw e0 e1
    go_wp2_with fail
    go_loopw [4, 5] (fun s i wr => ∃ k : Nat, k ≤ pn - 1 ∧ i = .int .i64 ((k : Int) + 1) ∧ Below w1.heap.size w1 wr ∧ ∃ S : List UInt8, s = .string (bs S) ∧ Hid (S = ((scopesL g).take k).flatMap scopeT ∧ S.length ≤ 100 * k)) (fun _ i _ => pn - (intOf i).toNat)
    case atStart => exact ⟨0, by omega, rfl, Below.refl _ _, [], rfl, by show _ ∧ _; simp⟩
    case round =>
      obtain ⟨k, hk, rfl, hbl, S, rfl, HS⟩ := hrel
      have e0 : wr.cell? ⟨w.heap.size, 0, none⟩ = some (.slice Pa pn pc) := by rw [Lib.cell_of_heap ((hbl.block _ hszw).trans HBX.out.1)]; rfl
      have e1 : wr.cell? ⟨w.heap.size, 1, none⟩ = some (.slice Ba bn bc) := by rw [Lib.cell_of_heap ((hbl.block _ hszw).trans HBX.out.1)]; rfl
      by_cases hlt : k < pn - 1
      · obtain ⟨h1, h2, -, -⟩ := M1.out
        obtain ⟨pb, po, p, rfl, hpb, hx, hx', hc, i1, i2⟩ := h1.at_ (k := k + 1) (by omega)
        obtain ⟨qb, qo, q, rfl, hqb, hy, hy', hd, j1, j2⟩ := h2.at_ (k := k + 1) (by omega)
        simp only [Rep.int, Nat.mul_one, Nat.add_zero] at hc hd
        replace hc := ((hbl.cell (p := ⟨pb, po + (k + 1), none⟩) (Nat.lt_trans hpb hszw)).trans (HBX.out.2.cell (p := ⟨pb, po + (k + 1), none⟩) hpb)).trans hc
        replace hd := ((hbl.cell (p := ⟨qb, qo + (k + 1), none⟩) (Nat.lt_trans hqb hszw)).trans (HBX.out.2.cell (p := ⟨qb, qo + (k + 1), none⟩) hqb)).trans hd
        have HX := Lib.hid (scopes_at hx hy)
        have HIp : Hid (I64 p) := ⟨i1, i2⟩
        have HIq : Hid (I64 q) := ⟨j1, j2⟩
        obtain ⟨A1, A2, A3, A4, S', a1, a2, a3, a4, a5, HS'⟩ := cats_scope S (Lib.itoa p) (Lib.itoa q) (by have := HS.out.2; omega) (itoa_le HIp.out) (itoa_le HIq.out)
        have HSS := Lib.hid (And.intro (show S' = ((scopesL g).take (k + 1)).flatMap scopeT by rw [flat_take scopeT HX.out, HS'.out, HS.out.1]; rfl) (show S'.length ≤ 100 * (k + 1) by have := HS.out.2; have := scope_len HIp.out HIq.out; rw [HS'.out, List.length_append]; omega))
        have NP := Lib.hid (refNum_any p HIp.out)
        have NQ := Lib.hid (refNum_any q HIq.out)
        clear hx hx' hy hy' h1 h2 i1 i2 j1 j2 HIp HIq HS HS'
        generalize Lib.itoa p = Pp at a1 NP
        generalize Lib.itoa q = Qq at a3 NQ
        have hw1 : ((k : Int) + 1).toNat = k + 1 := by omega
        have hw2 : (0 : Int) ≤ (k : Int) + 1 := by omega
        have hw3 : (k : Int) + 1 < (pn : Int) := by omega
        have hw4 : (k : Int) + 1 < (bn : Int) := by omega
        go_upto_region 7 with fail
        go_region_held3 (fun W => W.cell? ⟨w.heap.size, 0, none⟩ = some (.slice (some ⟨pb, po, none⟩) pn pc) ∧ W.cell? ⟨w.heap.size, 1, none⟩ = some (.slice (some ⟨qb, qo, none⟩) bn bc) ∧ W.cell? ⟨pb, po + (k + 1), none⟩ = some (.int .i64 p) ∧ W.cell? ⟨qb, qo + (k + 1), none⟩ = some (.int .i64 q)) (first | exact ⟨e0, e1, hc, hd⟩ | fail)
          (first
            | (go_at_call_of 20 (Value.int IntKind.i64 p); refine (NP.out _).mono ?_; rintro e w2 ⟨rfl, rfl⟩)
            | (go_at_call_of 20 (Value.int IntKind.i64 q); refine (NQ.out _).mono ?_; rintro e w2 ⟨rfl, rfl⟩)
            | fail)
        all_goals
          go_wp2_with fail
          go_roundw
          case rel => exact ⟨k + 1, by omega, by go_num, hbl.drew, S', rfl, HSS⟩
          case measure => simp [intOf]; omega
      · have hkp : (scopesL g).take k = scopesL g := List.take_of_length_le (by rw [scopes_len FG.out.same, HL.out.1]; omega)
        have HS0 : Hid (S = (scopesL g).flatMap scopeT ∧ S.length ≤ 700) := ⟨by rw [HS.out.1, hkp], by have := HS.out.2; omega⟩
        clear HS hkp e1
        have hnn : nn ≤ 32 := by have := HL.out.2.2.1; have := FG.out.nodes; omega
        have hen : en ≤ 64 := by have := HL.out.2.2.2; have := FG.out.edges; omega
        have HB1 := Lib.hid hbl
        have hs1 := hbl.size
        clear hbl
        go_wp2_with fail
        clear e0 hlt hk
        go_loopw [4, 6] (fun s i wr => ∃ k : Nat, k ≤ nn ∧ i = .int .i64 k ∧ Below w1.heap.size w1 wr ∧ ∃ S : List UInt8, s = .string (bs S) ∧ Hid (S = (scopesL g).flatMap scopeT ++ (g.nodes.take k).flatMap nodeT ∧ S.length ≤ 700 + 7000 * k ∧ (g.nodes.take k).any nodeBadNm = false)) (fun _ i _ => nn - (intOf i).toNat)
        case atStart => exact ⟨0, by omega, rfl, HB1.out, S, rfl, ⟨by rw [HS0.out.1]; simp, by have := HS0.out.2; omega, rfl⟩⟩
        case round =>
          obtain ⟨k, hk, rfl, hbl, S, rfl, HS⟩ := hrel
          have e2 : wr.cell? ⟨w.heap.size, 2, none⟩ = some (.slice Na nn nc) := by rw [Lib.cell_of_heap ((hbl.block _ hszw).trans HBX.out.1)]; rfl
          have hsz2 := hbl.size
          by_cases hlt : k < nn
          · obtain ⟨-, -, h3, -⟩ := M1.out
            obtain ⟨b, o, x, rfl, hb, hx, hx', k0, k1, k2, i0, i1, i2, A, n, cap, k3, kn, km, hp⟩ := h3.at_ hlt
            simp only [Rep.node, Nat.add_zero] at k0 k1 k2 k3
            have hbB : Below w.heap.size w wr := HBX.out.2.trans (hbl.mono (Nat.le_of_lt hszw))
            replace k0 := (hbB.cell (p := ⟨b, _, none⟩) hb).trans k0
            replace k1 := (hbB.cell (p := ⟨b, _, none⟩) hb).trans k1
            replace k2 := (hbB.cell (p := ⟨b, _, none⟩) hb).trans k2
            replace k3 := (hbB.cell (p := ⟨b, _, none⟩) hb).trans k3
            have HX := Lib.hid hx
            have HN := Lib.hid (FG.out.node x (List.mem_of_getElem? hx))
            have hn64 : n ≤ 64 := by have := HN.out.2.2.1; have := hp.len; omega
            have HQ := Lib.hid hp
            have hbw : b < wr.heap.size := by omega
            have hk32 : k < 32 := by omega
            have HIp := Lib.hid i1
            have HIq := Lib.hid i2
            have HBB := Lib.hid (And.intro hbl hbB)
            unfold maxLen at km
            clear hx hx' h3 hp i0 i1 i2 hbl hbB
            by_cases hkd : 1 ≤ x.kind ∧ x.kind ≤ 15
            · obtain ⟨d1, d2⟩ := hkd
              obtain ⟨j, hj⟩ : ∃ j : Nat, x.kind = (j : Int) + 1 := ⟨(x.kind - 1).toNat, by omega⟩
              have hjk : j < kindsL.length := by rw [kindsL_len]; omega
              have hnm : nmOf kindsL x.kind = kindsL[j] := by
                unfold nmOf
                rw [if_pos (by rw [kindsL_len]; omega), hj, show ((j : Int) + 1 - 1).toNat = j by omega, List.getD_eq_getElem?_getD, List.getElem?_eq_getElem hjk]; rfl
              have hnok : nmOK kindsL x.kind = true := by simp [nmOK, kindsL_len]; omega
              have HNC := Lib.hid (nameCells_at (List.getElem?_eq_getElem hjk))
              rw [← hnm] at HNC
              obtain ⟨A1, A2, A3, A4, A5, A6, S', a1, a2, a3, a4, a5, a6, a7, HS'⟩ := cats_node S (nmOf kindsL x.kind) (Lib.itoa x.scope) (Lib.itoa x.arg) (by have := HS.out.2.1; omega) (Nat.le_trans (nmOf_le kindsL_le _) (by omega)) (itoa_le HIp.out) (itoa_le HIq.out)
              have HSS : Hid (S' = (scopesL g).flatMap scopeT ++ (g.nodes.take k).flatMap nodeT ++ lineOf [wNode, nmOf kindsL x.kind, Lib.itoa x.scope, Lib.itoa x.arg] ∧ S'.length ≤ 700 + 7000 * k + 100) := ⟨by rw [HS'.out, HS.out.1], by have := HS.out.2.1; have := nodeLine_len (k := x.kind) HIp.out HIq.out; rw [HS'.out, List.length_append]; omega⟩
              have HNOK := Lib.hid hnok
              have NP := Lib.hid (refNum_any x.scope HIp.out)
              have NQ := Lib.hid (refNum_any x.arg HIq.out)
              have hj15 : j < 15 := by omega
              clear d1 d2 HIp HIq HS' hnm hnok hjk
              generalize nmOf kindsL x.kind = nm at a1 HNC
              generalize Lib.itoa x.scope = Pp at a3 NP
              generalize Lib.itoa x.arg = Qq at a5 NQ
              rw [hj] at k0
              have hq1 : ((j : Int) + 1).toNat = j + 1 := by omega
              have hw1 : IntKind.i64.wrap ((j : Int) + 1 - 1) = (j : Int) := by rw [IntKind.wrap_i64]; omega
              have hw2 : (0 : Int) ≤ (j : Int) := by omega
              have hw3 : (j : Int) < 15 := by omega
              have hw4 : IntKind.i64.wrap (j : Int) = (j : Int) := by rw [IntKind.wrap_i64]; omega
              have hnbs : wr.heap.size < (wr.alloc (.cells #[.int .i64 ((j : Int) + 1), .int .i64 x.scope, .int .i64 x.arg, .slice A n cap] 43)).heap.size := by simp
              have hnbx := heap_alloc_new wr #[.int .i64 ((j : Int) + 1), .int .i64 x.scope, .int .i64 x.arg, .slice A n cap] 43
              have hbnb : Below wr.heap.size wr (wr.alloc (.cells #[.int .i64 ((j : Int) + 1), .int .i64 x.scope, .int .i64 x.arg, .slice A n cap] 43)) := (Below.refl _ _).alloc (Nat.le_refl _) _
              go_upto_region 14 with fail
              generalize (wr.alloc (.cells #[.int .i64 ((j : Int) + 1), .int .i64 x.scope, .int .i64 x.arg, .slice A n cap] 43)) = W1 at hnbs hnbx hbnb ⊢
              have f0 : W1.cell? ⟨wr.heap.size, 0, none⟩ = some (.int .i64 ((j : Int) + 1)) := by rw [Lib.cell_of_heap hnbx]; rfl
              have f1 : W1.cell? ⟨wr.heap.size, 1, none⟩ = some (.int .i64 x.scope) := by rw [Lib.cell_of_heap hnbx]; rfl
              have f2 : W1.cell? ⟨wr.heap.size, 2, none⟩ = some (.int .i64 x.arg) := by rw [Lib.cell_of_heap hnbx]; rfl
              have HNB := Lib.hid (And.intro hnbx (HBB.out.1.trans (hbnb.mono (by omega))))
              clear hnbx hbnb k0 k1 k2 k3
              generalize wr.heap.size = nb at hnbs f0 f1 f2 HNB
              go_cut [4] (fun s wx => s = .string (bs S') ∧ Below W1.heap.size W1 wx)
              case first =>
                rw [show Op.load 9 (Operand.tmp 64) = later (Op.load 9 (Operand.tmp 64)) from rfl]
                go_region_held3 (fun W => W.cell? ⟨nb, 0, none⟩ = some (.int .i64 ((j : Int) + 1)) ∧ W.cell? ⟨nb, 1, none⟩ = some (.int .i64 x.scope) ∧ W.cell? ⟨nb, 2, none⟩ = some (.int .i64 x.arg)) (first | exact ⟨f0, f1, f2⟩ | fail)
                  (first
                    | (go_at_call_of 20 (Value.int IntKind.i64 x.scope); refine (NP.out _).mono ?_; rintro e w2 ⟨rfl, rfl⟩)
                    | (go_at_call_of 20 (Value.int IntKind.i64 x.arg); refine (NQ.out _).mono ?_; rintro e w2 ⟨rfl, rfl⟩)
                    | (go_at_call 21; refine (refKinds_at HNC.out _).mono ?_; rintro e w2 ⟨bk, rfl, fk, hb2⟩; have f0 := (hb2.cell (p := ⟨nb, 0, none⟩) hnbs).trans f0; have f1 := (hb2.cell (p := ⟨nb, 1, none⟩) hnbs).trans f1; have f2 := (hb2.cell (p := ⟨nb, 2, none⟩) hnbs).trans f2)
                    | fail)
                all_goals
                  go_wp2_with fail
                  go_meet
                  exact ⟨rfl, by first | exact hb2 | exact below_undrew hb2 | exact hb2.drew | exact (below_undrew hb2).drew⟩
              case rest =>
                obtain ⟨rfl, hbW⟩ := hcut
                have hnx := (hbW.block _ hnbs).trans HNB.out.1
                have f3 : wc.cell? ⟨nb, 3, none⟩ = some (.slice A n cap) := by rw [Lib.cell_of_heap hnx]; rfl
                have HWC := Lib.hid hbW
                clear a1 a2 a3 a4 a5 a6 a7 f0 f1 f2 hbW hnx HNC NP NQ hq1 hw1 hw2 hw3 hw4
                go_wp2_with fail
                clear f3
                go_loopw [4, 8] (fun s i wr => ∃ m : Nat, m ≤ n ∧ i = .int .i64 m ∧ Below W1.heap.size W1 wr ∧ ∃ S : List UInt8, s = .string (bs S) ∧ Hid (S = (scopesL g).flatMap scopeT ++ (g.nodes.take k).flatMap nodeT ++ (lineOf [wNode, nmOf kindsL x.kind, Lib.itoa x.scope, Lib.itoa x.arg] ++ (x.prog.take m).flatMap insT) ∧ S.length ≤ 700 + 7000 * k + 100 + 100 * m ∧ (x.prog.take m).any insBadNm = false)) (fun _ i _ => n - (intOf i).toNat)
                case atStart => exact ⟨0, by omega, rfl, HWC.out, S', rfl, ⟨by rw [HSS.out.1]; simp, by have := HSS.out.2; omega, rfl⟩⟩
                case round =>
                  obtain ⟨m, hm, rfl, hbm, T, rfl, HT⟩ := hrel
                  have hnx := (hbm.block _ hnbs).trans HNB.out.1
                  have f3 : wr.cell? ⟨nb, 3, none⟩ = some (.slice A n cap) := by rw [Lib.cell_of_heap hnx]; rfl
                  have hsz5 := hbm.size
                  clear hnx
                  by_cases hltm : m < n
                  · obtain ⟨b2, o2, y, rfl, hb2, hy, hy', q0, q1, j0, j1⟩ := HQ.out.at_ hltm
                    simp only [Rep.ins, Nat.add_zero] at q0 q1
                    have hbB : Below w.heap.size w wr := HBX.out.2.trans ((HNB.out.2.mono (Nat.le_of_lt hszw)).trans (hbm.mono (by have := HNB.out.2.size; omega)))
                    replace q0 := (hbB.cell (p := ⟨b2, _, none⟩) hb2).trans q0
                    replace q1 := (hbB.cell (p := ⟨b2, _, none⟩) hb2).trans q1
                    have HY := Lib.hid hy
                    have HJ := Lib.hid j1
                    have HBM := Lib.hid hbm
                    have hb2w : b2 < wr.heap.size := by have := hbB.size; omega
                    have hm64 : m < 64 := by omega
                    clear hy hy' j0 j1 hbm hbB
                    by_cases hop : 1 ≤ y.op ∧ y.op ≤ 16
                    · obtain ⟨d1, d2⟩ := hop
                      obtain ⟨v, hv⟩ : ∃ v : Nat, y.op = (v : Int) + 1 := ⟨(y.op - 1).toNat, by omega⟩
                      have hvk : v < codesL.length := by rw [codesL_len]; omega
                      have hnm : nmOf codesL y.op = codesL[v] := by
                        unfold nmOf
                        rw [if_pos (by rw [codesL_len]; omega), hv, show ((v : Int) + 1 - 1).toNat = v by omega, List.getD_eq_getElem?_getD, List.getElem?_eq_getElem hvk]; rfl
                      have hnok : insBadNm y = false := by simp [insBadNm, nmOK, codesL_len]; omega
                      have HNC := Lib.hid (nameCells_at (List.getElem?_eq_getElem hvk))
                      rw [← hnm] at HNC
                      obtain ⟨A1, A2, A3, A4, T', a1, a2, a3, a4, a5, HT'⟩ := cats_ins T (nmOf codesL y.op) (Lib.itoa y.n) (by have := HT.out.2.1; omega) (Nat.le_trans (nmOf_le codesL_le _) (by omega)) (itoa_le HJ.out)
                      have HTT : Hid (T' = (scopesL g).flatMap scopeT ++ (g.nodes.take k).flatMap nodeT ++ (lineOf [wNode, nmOf kindsL x.kind, Lib.itoa x.scope, Lib.itoa x.arg] ++ (x.prog.take (m + 1)).flatMap insT) ∧ T'.length ≤ 700 + 7000 * k + 100 + 100 * (m + 1) ∧ (x.prog.take (m + 1)).any insBadNm = false) := ⟨by rw [HT'.out, HT.out.1, flat_take insT HY.out]; simp [insT], by have := HT.out.2.1; have := ins_len (k := y.op) HJ.out; rw [HT'.out, List.length_append]; omega, by rw [any_take insBadNm HY.out, HT.out.2.2, hnok]; rfl⟩
                      have NQ := Lib.hid (refNum_any y.n HJ.out)
                      have hv16 : v < 16 := by omega
                      clear d1 d2 HJ HT' hnm hnok hvk HT
                      generalize nmOf codesL y.op = nm at a1 HNC
                      generalize Lib.itoa y.n = Qq at a3 NQ
                      rw [hv] at q0
                      have hw1 : IntKind.i64.wrap ((v : Int) + 1 - 1) = (v : Int) := by rw [IntKind.wrap_i64]; omega
                      have hw2 : (0 : Int) ≤ (v : Int) := by omega
                      have hw3 : (v : Int) < 16 := by omega
                      have hw4 : IntKind.i64.wrap (v : Int) = (v : Int) := by rw [IntKind.wrap_i64]; omega
                      have hw5 : (0 : Int) ≤ (m : Int) := by omega
                      have hw6 : (m : Int) < (n : Int) := by omega
                      have hnbw : nb < wr.heap.size := by omega
                      go_upto_region 20 with fail
                      rw [show Op.load 9 (Operand.tmp 111) = later (Op.load 9 (Operand.tmp 111)) from rfl]
                      go_region_held3 (fun W => W.cell? ⟨nb, 3, none⟩ = some (.slice (some ⟨b2, o2, none⟩) n cap) ∧ W.cell? ⟨b2, o2 + m * 2, none⟩ = some (.int .i64 ((v : Int) + 1)) ∧ W.cell? ⟨b2, o2 + m * 2 + 1, none⟩ = some (.int .i64 y.n)) (first | exact ⟨f3, q0, q1⟩ | fail)
                        (first
                          | (go_at_call_of 20 (Value.int IntKind.i64 y.n); refine (NQ.out _).mono ?_; rintro e w2 ⟨rfl, rfl⟩)
                          | (go_at_call 22; refine (refCodes_at HNC.out _).mono ?_; rintro e w2 ⟨bk, rfl, fk, hb5⟩; have f3 := (hb5.cell (p := ⟨nb, 3, none⟩) hnbw).trans f3; have q0 := (hb5.cell (p := ⟨b2, o2 + m * 2, none⟩) hb2w).trans q0; have q1 := (hb5.cell (p := ⟨b2, o2 + m * 2 + 1, none⟩) hb2w).trans q1)
                          | fail)
                      all_goals
                        have HBN := Lib.hid hb5
                        clear f3 q0 q1 fk hb5 a1 a2 a3 a4 a5
                        go_wp2_with fail
                        go_roundw
                        case rel => exact ⟨m + 1, by omega, by go_num, HBM.out.trans (Below.mono (by first | exact HBN.out | exact below_undrew HBN.out | exact HBN.out.drew | exact (below_undrew HBN.out).drew) hsz5), T', rfl, HTT⟩
                        case measure => simp [intOf]; omega
                    · have HZ := Lib.hid (showSpec_bad (g := g) (bad_op HX.out HY.out hop))
                      have d0 : y.op < 1 ∨ (1 ≤ y.op ∧ 16 < y.op) := by omega
                      have HBO : Hid (Below w.heap.size w wr) := HBX.out.2.trans ((HNB.out.2.mono (Nat.le_of_lt hszw)).trans (HBM.out.mono (by have := HNB.out.2.size; omega)))
                      clear hop
                      rcases d0 with d0 | ⟨d0, d1⟩
                      · go_wp2_with fail
                        all_goals first | (exfalso; omega) | (go_ret2; exact ⟨by rw [HZ.out]; rfl, by first | exact HBO.out | exact HBO.out.drew⟩)
                      · go_wp2_with fail
                        all_goals first | (exfalso; omega) | (go_ret2; exact ⟨by rw [HZ.out]; rfl, by first | exact HBO.out | exact HBO.out.drew⟩)
                  · have hme : x.prog.take m = x.prog := List.take_of_length_le (by have := HQ.out.len; omega)
                    have HTT : Hid (T = (scopesL g).flatMap scopeT ++ (g.nodes.take (k + 1)).flatMap nodeT ∧ T.length ≤ 700 + 7000 * (k + 1) ∧ (g.nodes.take (k + 1)).any nodeBadNm = false) := ⟨by rw [HT.out.1, flat_take nodeT HX.out, hme]; simp [nodeT], by have := HT.out.2.1; omega, by rw [any_take nodeBadNm HX.out, HS.out.2.2]; have := HT.out.2.2; rw [hme] at this; simp [nodeBadNm, this, HNOK.out]⟩
                    have HBM := Lib.hid hbm
                    clear HT hme hbm
                    go_wp2_with fail
                    go_roundw
                    case rel => exact ⟨k + 1, by omega, by go_num, HNB.out.2.trans (HBM.out.mono (by have := HNB.out.2.size; omega)), T, rfl, HTT⟩
                    case measure => simp [intOf]; omega
            · have HZ := Lib.hid (showSpec_bad (g := g) (bad_kind HX.out hkd))
              have d0 : x.kind < 1 ∨ (1 ≤ x.kind ∧ 15 < x.kind) := by omega
              have HBO : Hid (Below w.heap.size w (wr.alloc (.cells #[.int .i64 x.kind, .int .i64 x.scope, .int .i64 x.arg, .slice A n cap] 43))) := HBB.out.2.alloc HBB.out.2.size _
              clear hkd
              rcases d0 with d0 | ⟨d0, d1⟩
              · go_wp2_with fail
                all_goals first | (exfalso; omega) | (go_ret2; exact ⟨by rw [HZ.out]; rfl, by first | exact HBO.out | exact HBO.out.drew⟩)
              · go_wp2_with fail
                all_goals first | (exfalso; omega) | (go_ret2; exact ⟨by rw [HZ.out]; rfl, by first | exact HBO.out | exact HBO.out.drew⟩)
          · have hke : g.nodes.take k = g.nodes := List.take_of_length_le (by have := HL.out.2.2.1; omega)
            have HS3 : Hid (S = (scopesL g).flatMap scopeT ++ g.nodes.flatMap nodeT ∧ S.length ≤ 224700 ∧ badNodes g = false) := ⟨by rw [HS.out.1, hke], by have := HS.out.2.1; omega, by have := HS.out.2.2; rw [hke] at this; exact this⟩
            have HBL := Lib.hid hbl
            clear HS hke hbl
            go_wp2_with fail
            clear e2 hlt hk
            go_loopw [4, 9] (fun s i wr => ∃ k : Nat, k ≤ en ∧ i = .int .i64 k ∧ Below w1.heap.size w1 wr ∧ ∃ S : List UInt8, s = .string (bs S) ∧ Hid (S = (scopesL g).flatMap scopeT ++ g.nodes.flatMap nodeT ++ (g.edges.take k).flatMap edgeT ∧ S.length ≤ 224700 + 100 * k)) (fun _ i _ => en - (intOf i).toNat)
            case atStart => exact ⟨0, by omega, rfl, HBL.out, S, rfl, ⟨by rw [HS3.out.1]; simp, by have := HS3.out.2.1; omega⟩⟩
            case round =>
              have HBAD := Lib.hid HS3.out.2.2
              clear HS3
              obtain ⟨k, hk, rfl, hbl, S, rfl, HS⟩ := hrel
              have e3 : wr.cell? ⟨w.heap.size, 3, none⟩ = some (.slice Ea en ec) := by rw [Lib.cell_of_heap ((hbl.block _ hszw).trans HBX.out.1)]; rfl
              have hsz6 := hbl.size
              by_cases hlt : k < en
              · obtain ⟨-, -, -, h4⟩ := M1.out
                obtain ⟨b, o, x, rfl, hb, hx, hx', k0, k1, k2, k3, i0, i1, i2⟩ := h4.at_ hlt
                simp only [Rep.edge, Nat.add_zero] at k0 k1 k2 k3
                have hbB : Below w.heap.size w wr := HBX.out.2.trans (hbl.mono (Nat.le_of_lt hszw))
                replace k0 := (hbB.cell (p := ⟨b, _, none⟩) hb).trans k0
                replace k1 := (hbB.cell (p := ⟨b, _, none⟩) hb).trans k1
                replace k2 := (hbB.cell (p := ⟨b, _, none⟩) hb).trans k2
                replace k3 := (hbB.cell (p := ⟨b, _, none⟩) hb).trans k3
                have HX := Lib.hid hx
                have hbw : b < wr.heap.size := by omega
                have hk64 : k < 64 := by omega
                have HI0 := Lib.hid i0
                have HI1 := Lib.hid i1
                have HI2 := Lib.hid i2
                obtain ⟨A1, A2, A3, A4, A5, S1, S2, S3, a1, a2, a3, a4, a5, a6, a7, a8, HS'⟩ := cats_edge S (Lib.itoa x.frm) (Lib.itoa x.dst) (Lib.itoa x.port) (by have := HS.out.2; omega) (itoa_le i0) (itoa_le i1) (itoa_le i2)
                have NP := Lib.hid (refNum_any x.frm i0)
                have NQ := Lib.hid (refNum_any x.dst i1)
                have NR := Lib.hid (refNum_any x.port i2)
                have HBB := Lib.hid hbl
                clear hx hx' h4 i0 i1 i2 hbB hbl
                have hnbs : wr.heap.size < (wr.alloc (.cells #[.int .i64 x.frm, .int .i64 x.dst, .int .i64 x.port, .bool x.ex] 45)).heap.size := by simp
                have hnbx := heap_alloc_new wr #[.int .i64 x.frm, .int .i64 x.dst, .int .i64 x.port, .bool x.ex] 45
                have hbnb : Below wr.heap.size wr (wr.alloc (.cells #[.int .i64 x.frm, .int .i64 x.dst, .int .i64 x.port, .bool x.ex] 45)) := (Below.refl _ _).alloc (Nat.le_refl _) _
                go_upto_region 25 with fail
                generalize (wr.alloc (.cells #[.int .i64 x.frm, .int .i64 x.dst, .int .i64 x.port, .bool x.ex] 45)) = W1 at hnbs hnbx hbnb ⊢
                have f0 : W1.cell? ⟨wr.heap.size, 0, none⟩ = some (.int .i64 x.frm) := by rw [Lib.cell_of_heap hnbx]; rfl
                have f1 : W1.cell? ⟨wr.heap.size, 1, none⟩ = some (.int .i64 x.dst) := by rw [Lib.cell_of_heap hnbx]; rfl
                have f2 : W1.cell? ⟨wr.heap.size, 2, none⟩ = some (.int .i64 x.port) := by rw [Lib.cell_of_heap hnbx]; rfl
                have HNB := Lib.hid (And.intro hnbx (HBB.out.trans (hbnb.mono (by omega))))
                clear hnbx hbnb k0 k1 k2 k3 e3
                generalize wr.heap.size = nb at hnbs f0 f1 f2 HNB
                generalize Lib.itoa x.frm = Pp at a1 NP
                generalize Lib.itoa x.dst = Qq at a3 NQ
                generalize Lib.itoa x.port = Rr at a5 NR
                go_cut [4] (fun s wx => s = .string (bs S1) ∧ Below W1.heap.size W1 wx)
                case first =>
                  go_region_held3 (fun W => W.cell? ⟨nb, 0, none⟩ = some (.int .i64 x.frm) ∧ W.cell? ⟨nb, 1, none⟩ = some (.int .i64 x.dst) ∧ W.cell? ⟨nb, 2, none⟩ = some (.int .i64 x.port)) (first | exact ⟨f0, f1, f2⟩ | fail)
                    (first
                      | (go_at_call_of 20 (Value.int IntKind.i64 x.frm); refine (NP.out _).mono ?_; rintro e w2 ⟨rfl, rfl⟩)
                      | (go_at_call_of 20 (Value.int IntKind.i64 x.dst); refine (NQ.out _).mono ?_; rintro e w2 ⟨rfl, rfl⟩)
                      | (go_at_call_of 20 (Value.int IntKind.i64 x.port); refine (NR.out _).mono ?_; rintro e w2 ⟨rfl, rfl⟩)
                      | fail)
                  all_goals
                    go_wp2_with fail
                    go_meet
                    exact ⟨rfl, by first | exact Below.refl _ _ | exact (Below.refl _ _).drew⟩
                case rest =>
                obtain ⟨rfl, hbW⟩ := hcut
                have hnx := (hbW.block _ hnbs).trans HNB.out.1
                have f3 : wc.cell? ⟨nb, 3, none⟩ = some (.bool x.ex) := by rw [Lib.cell_of_heap hnx]; rfl
                have HWC := Lib.hid hbW
                clear a1 a2 a3 a4 a5 a6 f0 f1 f2 hbW hnx NP NQ NR
                cases hex : x.ex
                · rw [hex] at f3
                  have HTT : Hid (S3 = (scopesL g).flatMap scopeT ++ g.nodes.flatMap nodeT ++ (g.edges.take (k + 1)).flatMap edgeT ∧ S3.length ≤ 224700 + 100 * (k + 1)) := ⟨by rw [HS'.out.2, HS.out.1, flat_take edgeT HX.out]; simp [edgeT, hex], by have := HS.out.2; have := edge_len HI0.out HI1.out HI2.out wPipe (by decide); rw [HS'.out.2, List.length_append]; omega⟩
                  clear HS HS'
                  go_wp2_with fail
                  go_roundw
                  case rel => exact ⟨k + 1, by omega, by go_num, HNB.out.2.trans (HWC.out.mono (by have := HNB.out.2.size; omega)), S3, rfl, HTT⟩
                  case measure => simp [intOf]; omega
                · rw [hex] at f3
                  have HTT : Hid (S2 = (scopesL g).flatMap scopeT ++ g.nodes.flatMap nodeT ++ (g.edges.take (k + 1)).flatMap edgeT ∧ S2.length ≤ 224700 + 100 * (k + 1)) := ⟨by rw [HS'.out.1, HS.out.1, flat_take edgeT HX.out]; simp [edgeT, hex], by have := HS.out.2; have := edge_len HI0.out HI1.out HI2.out wKey (by decide); rw [HS'.out.1, List.length_append]; omega⟩
                  clear HS HS'
                  go_wp2_with fail
                  go_roundw
                  case rel => exact ⟨k + 1, by omega, by go_num, HNB.out.2.trans (HWC.out.mono (by have := HNB.out.2.size; omega)), S2, rfl, HTT⟩
                  case measure => simp [intOf]; omega
              · have hke : g.edges.take k = g.edges := List.take_of_length_le (by have := HL.out.2.2.2; omega)
                have HZ := Lib.hid (showSpec_ok hfit HBAD.out)
                have HSE : Hid (S = showText g) := by show _ = _; rw [HS.out.1, hke]; rfl
                have HBO : Hid (Below w.heap.size w wr) := HBX.out.2.trans (hbl.mono (Nat.le_of_lt hszw))
                clear HS hke hbl
                go_wp2_with fail
                go_ret2
                exact ⟨by rw [HZ.out, ← HSE.out]; rfl, HBO.out⟩
  · have hff : fitsB g = false := by simpa using hfit
    have HZ := Lib.hid (showSpec_unfit hff)
    rw [hff]
    go_wp2_with fail
    go_ret2
    exact ⟨by rw [HZ.out]; rfl, hbw⟩

end Go.Proofs.YtigdaaloagecgaaGreatDoor
