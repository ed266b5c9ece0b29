/-
  text.Show: its walk. Condition: the library's tables hold what its text lays.
-/
import Derived.Test.YtigdaaloagecgaaGreatDoorShowSt
namespace Go.Proofs.YtigdaaloagecgaaGreatDoor
open Go.RowKit

theorem show_start {w w1 : World} {cs : Array Value} (L : Libs w) (hb : Below w.heap.size w w1) (hx : w1.heap[w.heap.size]? = some (.cells cs 26 (0, 0))) :
    SSt w.heap.size w w1.heap.size [] 0 false [(w.heap.size, cs, 26)] (w1.alloc (.cells #[.pointer none, .slice none 0 0, .bool false] 51)) where
  below := hb.alloc hb.size _
  libs := (L.below hb L.size).below ((Below.refl w1.heap.size w1).alloc (Nat.le_refl _) _) (Nat.le_trans L.size hb.size)
  shw := .inl ⟨Nat.le_refl _, .slice none 0 0, heap_alloc_new _ _ _, ⟨rfl, .inl ⟨rfl, rfl⟩⟩, by simp [Value.ownBlock], fun _ => rfl⟩
  boxes := fun x hx' => by
    simp at hx'
    subst hx'
    have := heap_lt hx
    exact ⟨(((Below.refl w1.heap.size w1).alloc (Nat.le_refl _) _).block _ this).trans hx, by simp; omega, (by decide : 26 ≠ 5)⟩
  ge := hb.size
  ten := L.size
  le := by simp

def badNodes (g : Gr) : Bool := g.nodes.any nodeBadNm
theorem showSpec_bad {g : Gr} (h : badNodes g = true) : showSpec g = ([], 1) := by unfold showSpec; unfold badNodes at h; rw [h]; simp
theorem showSpec_ok {g : Gr} (hf : fitsB g = true) (h : badNodes g = false) : showSpec g = (showText g, 0) := by unfold showSpec; unfold badNodes at h; rw [h, hf]; simp
theorem showSpec_unfit {g : Gr} (h : fitsB g = false) : showSpec g = ([], 1) := by unfold showSpec; rw [h]; simp

theorem node_cells {B b n k : Nat} {l : List UInt8} {w W : World} {X : List (Nat × Array Value × TypeId)} {f : Bool} {t : TypeId} {c0 c1 c2 c3 : Value} (h : SSt B w b l n f X W) (hx : (k, #[c0, c1, c2, c3], t) ∈ X) : W.cell? ⟨k, 0, none⟩ = some c0 ∧ W.cell? ⟨k, 1, none⟩ = some c1 ∧ W.cell? ⟨k, 2, none⟩ = some c2 :=
  ⟨h.cell hx rfl, h.cell hx rfl, h.cell hx rfl⟩
theorem ins_cells {B b n k : Nat} {l : List UInt8} {w W : World} {X : List (Nat × Array Value × TypeId)} {f : Bool} {t : TypeId} {c0 c1 : Value} (h : SSt B w b l n f X W) (hx : (k, #[c0, c1], t) ∈ X) : W.cell? ⟨k, 0, none⟩ = some c0 ∧ W.cell? ⟨k, 1, none⟩ = some c1 :=
  ⟨h.cell hx rfl, h.cell hx rfl⟩
theorem show_ins {B b j m : Nat} {w W : World} {x : Nd} {y : Ins} {X : List (Nat × Array Value × TypeId)} {f f' : Bool} {l : List UInt8} (h : SSt B w b (l ++ (x.prog.take j).flatMap insT ++ lineOf [wIns, nmOf codesL y.op, Lib.itoa y.n]) (m + 100 * j + 100) (f || (f' || (x.prog.take j).any insBadNm) || !nmOK codesL y.op) X W) (hy : x.prog[j]? = some y) :
    SSt B w b (l ++ (x.prog.take (j + 1)).flatMap insT) (m + 100 * (j + 1)) (f || (f' || (x.prog.take (j + 1)).any insBadNm)) X W := by
  have e : l ++ (x.prog.take (j + 1)).flatMap insT = l ++ (x.prog.take j).flatMap insT ++ lineOf [wIns, nmOf codesL y.op, Lib.itoa y.n] := by rw [flat_take insT hy]; simp [insT]
  have e2 : (f || (f' || (x.prog.take (j + 1)).any insBadNm)) = (f || (f' || (x.prog.take j).any insBadNm) || !nmOK codesL y.op) := by rw [any_take insBadNm hy]; simp only [insBadNm, Bool.or_assoc]
  rw [e, e2]
  exact { h with le := by have := h.le; omega }
theorem show_node {B b j k m : Nat} {w W : World} {g : Gr} {x : Nd} {X : List (Nat × Array Value × TypeId)} {l : List UInt8} (h : SSt B w b (l ++ (g.nodes.take k).flatMap nodeT ++ lineOf [wNode, nmOf kindsL x.kind, Lib.itoa x.scope, Lib.itoa x.arg] ++ (x.prog.take j).flatMap insT) m ((g.nodes.take k).any nodeBadNm || (!nmOK kindsL x.kind || (x.prog.take j).any insBadNm)) X W) (hx : g.nodes[k]? = some x) (hj : x.prog.length ≤ j) (hm : m ≤ 700 + 7000 * (k + 1)) :
    SSt B w b (l ++ (g.nodes.take (k + 1)).flatMap nodeT) (700 + 7000 * (k + 1)) ((g.nodes.take (k + 1)).any nodeBadNm) X W := by
  have e0 : x.prog.take j = x.prog := List.take_of_length_le hj
  rw [e0] at h
  have e : l ++ (g.nodes.take (k + 1)).flatMap nodeT = l ++ (g.nodes.take k).flatMap nodeT ++ lineOf [wNode, nmOf kindsL x.kind, Lib.itoa x.scope, Lib.itoa x.arg] ++ x.prog.flatMap insT := by rw [flat_take nodeT hx]; simp [nodeT]
  have e2 : (g.nodes.take (k + 1)).any nodeBadNm = ((g.nodes.take k).any nodeBadNm || (!nmOK kindsL x.kind || x.prog.any insBadNm)) := by rw [any_take nodeBadNm hx]; rfl
  rw [e, e2]
  exact { h with le := by have := h.le; omega }
theorem show_edge {B b k m : Nat} {w W : World} {g : Gr} {x : Ed} {X : List (Nat × Array Value × TypeId)} {f : Bool} {l s : List UInt8} (h : SSt B w b (l ++ (g.edges.take k).flatMap edgeT ++ lineOf [wEdge, Lib.itoa x.frm, Lib.itoa x.dst, Lib.itoa x.port, s]) (m + 100 * k + 100) f X W) (hx : g.edges[k]? = some x) (hs : s = if x.ex then wKey else wPipe) :
    SSt B w b (l ++ (g.edges.take (k + 1)).flatMap edgeT) (m + 100 * (k + 1)) f X W := by
  subst hs
  have e : l ++ (g.edges.take (k + 1)).flatMap edgeT = l ++ (g.edges.take k).flatMap edgeT ++ lineOf [wEdge, Lib.itoa x.frm, Lib.itoa x.dst, Lib.itoa x.port, if x.ex then wKey else wPipe] := by rw [flat_take edgeT hx]; simp [edgeT]
  rw [e]
  exact { h with le := by have := h.le; omega }
theorem show_scope {B b k : Nat} {p q : Int} {w W : World} {g : Gr} {X : List (Nat × Array Value × TypeId)} {f : Bool} (h : SSt B w b (((scopesL g).take k).flatMap scopeT ++ lineOf [wScope, Lib.itoa p, Lib.itoa q]) (100 * k + 100) f X W) (hx : (scopesL g)[k]? = some (p, q)) : SSt B w b (((scopesL g).take (k + 1)).flatMap scopeT) (100 * (k + 1)) f X W := by
  rw [flat_take scopeT hx]
  exact { h with le := by have := h.le; simp only [scopeT] at this ⊢; omega }

set_option maxHeartbeats 1600000 in
set_option maxRecDepth 100000 in
theorem show_any (s : GS) (g : Gr) (w : World) (h : GrAt w w.heap.size s g) (L : Libs w) :
    Calls Tryz.prog 7 #[s.val] w fun e w' => e = .returned (.tuple #[.string (bs (showSpec g).1), .int .i64 (showSpec g).2]) ∧ Below w.heap.size w w' := by
  have HF := fun (o : Obj) => put_any s g (w.alloc o) ((h.keep (Same.alloc (Nat.le_refl _) o)).more (by simp))
  obtain ⟨Pa, pn, pc, Ba, bn, bc, Na, nn, nc, Ea, en, ec⟩ := s
  obtain ⟨h1, h2, h3, h4, c1, c2, c3, c4, m1, m2, m3, m4⟩ := h
  simp only at h1 h2 h3 h4 c1 c2 c3 c4 m1 m2 m3 m4
  unfold maxLen at m1 m2 m3 m4
  have HL := Lib.hid (And.intro h1.len (And.intro h2.len (And.intro h3.len h4.len)))
  unfold GS.val at HF ⊢
  have HFF := Lib.hid HF
  have HLib := Lib.hid L
  clear HF L
  go_enter Tryz.func7, Tryz.ntmps7
  go_wp2_with fail
  refine (HFF.out _).mono ?_
  rintro e w1 ⟨hb1, hno, hyes⟩
  have hbx : w1.heap[w.heap.size]? = some (.cells #[.slice Pa pn pc, .slice Ba bn bc, .slice Na nn nc, .slice Ea en ec] 26 (0, 0)) := (hb1.block _ (by simp)).trans (heap_alloc_new _ _ _)
  have hbw := (((Below.refl w.heap.size w).alloc (Nat.le_refl _) (.cells #[.slice Pa pn pc, .slice Ba bn bc, .slice Na nn nc, .slice Ea en ec] 26)).trans (hb1.mono (by simp)))
  by_cases hfit : fitsB g = true
  · have FG := Lib.hid (fitG hfit)
    obtain ⟨g1, m, cap, rfl, -, -, -⟩ := hyes hfit
    have P0 := show_start HLib.out hbw hbx
    obtain ⟨l1, l2, l3, l4⟩ := HL.out
    have hpn := FG.out.lo
    have hpm := FG.out.hi
    rw [l1] at hpn hpm
    have HP := Lib.hid P0
    have e0 := P0.cell (i := 0) (List.mem_cons_self ..) rfl
    have M1 := Lib.hid (And.intro h1 (And.intro h2 (And.intro h3 h4)))
    clear P0 h1 h2 h3 h4 l1 l2 l3 l4 hbx hbw hb1 hno hyes HFF
    obtain ⟨i0, hi, hz0, hz1, hz2⟩ := info_parts Tryz.info3
    have hcut := fun W : World => run_cut (P := Tryz.prog) 22 3 i0 Tryz.underlying22 hi 1 hz1 Pa pn pc 1 hpn W
    generalize cutA Pa pc 1 1 = A1 at hcut
    simp only [Int.ofNat_one] at hcut
    go_wp2_with fail
    generalize w1.heap.size = bw at HP
    clear e0
    go_loopw [28] (fun i wr => ∃ k : Nat, k ≤ pn - 1 ∧ i = .int .i64 k ∧ SSt w.heap.size w bw (((scopesL g).take k).flatMap scopeT) (100 * k) false [(w.heap.size, #[.slice Pa pn pc, .slice Ba bn bc, .slice Na nn nc, .slice Ea en ec], 26)] wr) (fun i _ => pn - 1 - (intOf i).toNat)
    case atStart => exact ⟨0, by omega, rfl, by simpa using HP.out⟩
    case round =>
      obtain ⟨k, hk, rfl, hP⟩ := hrel
      by_cases hlt : k < pn - 1
      · obtain ⟨h1, h2, -, -⟩ := M1.out
        obtain ⟨pb, po, p, rfl, hpb, hx, hx', hc, i1, i2⟩ := h1.at_ (k := k + 1) (by omega)
        obtain ⟨qb, qo, q, rfl, hqb, hy, hy', hd, j1, j2⟩ := h2.at_ (k := k + 1) (by have := HL.out.2.1; have := HL.out.1; have := FG.out.same; omega)
        simp only [Rep.int, Nat.mul_one, Nat.add_zero] at hc hd
        have HC := Lib.hid (And.intro hc hd)
        replace hc := (hP.below.cell (p := ⟨pb, po + (k + 1), none⟩) hpb).trans hc
        replace hd := (hP.below.cell (p := ⟨qb, qo + (k + 1), none⟩) hqb).trans hd
        have HX := Lib.hid (scopes_at hx hy)
        have e0 := hP.cell (i := 0) (List.mem_cons_self ..) rfl
        have e1 := hP.cell (i := 1) (List.mem_cons_self ..) rfl
        have hsz2 := hP.sz
        have hsz3 := hP.ge
        have HI : I64 p ∧ I64 q := ⟨⟨i1, i2⟩, ⟨j1, j2⟩⟩
        have HIp := Lib.hid HI.1
        have HIq := Lib.hid HI.2
        clear HI hx hx' hy hy' h1 h2 i1 i2 j1 j2 HP
        have hpb2 : pb < wr.heap.size := by omega
        have hqb2 : qb < wr.heap.size := by omega
        have hw0 : IntKind.i64.wrap (1 + (k : Int)) = 1 + (k : Int) := by rw [IntKind.wrap_i64]; omega
        have hw1 : (1 + (k : Int)).toNat = k + 1 := by omega
        have hw2 : (0 : Int) ≤ 1 + (k : Int) := by omega
        have hw3 : 1 + (k : Int) < (pn : Int) := by omega
        have hw4 : 1 + (k : Int) < (bn : Int) := by have := HL.out.2.1; have := HL.out.1; have := FG.out.same; omega
        go_upto_region 8 with fail
        go_region_held3 (fun W => W.cell? ⟨w.heap.size, 0, none⟩ = some (.slice (some ⟨pb, po, none⟩) pn pc) ∧ W.cell? ⟨w.heap.size, 1, none⟩ = some (.slice (some ⟨qb, qo, none⟩) bn bc) ∧ W.cell? ⟨pb, po + (k + 1), none⟩ = some (.int .i64 p) ∧ W.cell? ⟨qb, qo + (k + 1), none⟩ = some (.int .i64 q)) (first | exact ⟨f0, f1, f2, f3⟩ | exact ⟨Lib.cell?_alloc_marked _ f0, Lib.cell?_alloc_marked _ f1, Lib.cell?_alloc_marked _ f2, Lib.cell?_alloc_marked _ f3⟩ | (simp [go_sem, *]))
            (first
              | (go_at_call 13; refine (itoa_st (B := w.heap.size) (w := w) (b := bw) (by first | assumption | exact SSt.drew (by assumption) | exact SSt.drew (SSt.drew (by assumption))) _ (by first | exact HIp.out | exact HIq.out)).mono ?_; rintro e w2 ⟨rfl, hP2⟩; have f0 := hP2.cell (i := 0) (List.mem_cons_self ..) rfl; have f1 := hP2.cell (i := 1) (List.mem_cons_self ..) rfl; have f2 := (hP2.below.cell (p := ⟨pb, po + (k + 1), none⟩) hpb).trans HC.out.1; have f3 := (hP2.below.cell (p := ⟨qb, qo + (k + 1), none⟩) hqb).trans HC.out.2)
              | (go_at_call 12; have hz := SSt.box (cs := nameCells [wScope, Lib.itoa p, Lib.itoa q]) (t := 9) hP2 (by decide); refine (say_st (k := 100) (m := 3) (by first | exact hz | exact hz.drew) [wScope, Lib.itoa p, Lib.itoa q] rfl rfl (scope_len HIp.out HIq.out) (by omega)).mono ?_; rintro e w2 ⟨rfl, hP2⟩; have f0 := hP2.cell (i := 0) (List.mem_cons_self ..) rfl; have f1 := hP2.cell (i := 1) (List.mem_cons_self ..) rfl; have f2 := (hP2.below.cell (p := ⟨pb, po + (k + 1), none⟩) hpb).trans HC.out.1; have f3 := (hP2.below.cell (p := ⟨qb, qo + (k + 1), none⟩) hqb).trans HC.out.2)
              | fail)
        all_goals
          have HP3 := Lib.hid (show_scope hP2 HX.out)
          clear f0 f1 f2 f3 e0 e1 hc hd hP2 hP hz
          go_wp2_with fail
          go_roundw
          case rel => exact ⟨k + 1, by omega, by go_num, HP3.out⟩
          case measure => simp [intOf]; omega
      · have hP2 : SSt w.heap.size w bw ((scopesL g).flatMap scopeT) 700 false [(w.heap.size, #[.slice Pa pn pc, .slice Ba bn bc, .slice Na nn nc, .slice Ea en ec], 26)] wr := by
          have h0 : (scopesL g).take k = scopesL g := List.take_of_length_le (by rw [scopes_len FG.out.same, HL.out.1]; omega)
          rw [h0] at hP
          exact { hP with le := by have := hP.le; omega }
        have e2 := hP2.cell (i := 2) (List.mem_cons_self ..) rfl
        have HP3 := Lib.hid hP2
        clear hP hP2 HP hcut
        have hnn : nn ≤ 32 := by have := HL.out.2.2.1; have := FG.out.nodes; omega
        have hen : en ≤ 64 := by have := HL.out.2.2.2; have := FG.out.edges; omega
        go_wp2_with fail
        clear e2
        go_loopw [52] (fun i wr => ∃ k : Nat, k ≤ nn ∧ i = .int .i64 k ∧ SSt w.heap.size w bw ((scopesL g).flatMap scopeT ++ (g.nodes.take k).flatMap nodeT) (700 + 7000 * k) ((g.nodes.take k).any nodeBadNm) [(w.heap.size, #[.slice Pa pn pc, .slice Ba bn bc, .slice Na nn nc, .slice Ea en ec], 26)] wr) (fun i _ => nn - (intOf i).toNat)
        case atStart => exact ⟨0, by omega, rfl, by simpa using HP3.out⟩
        case round =>
          clear hk hlt
          obtain ⟨k, hk, rfl, hP⟩ := hrel
          by_cases hlt : k < nn
          · obtain ⟨-, -, h3, -⟩ := M1.out
            obtain ⟨b, o, x, rfl, hb, hx, hx', k0, k1, k2, i0, i1, i2, A, n, cap, k3, kn, km, hp⟩ := h3.at_ hlt
            simp only [Rep.node, Nat.add_zero] at k0 k1 k2 k3
            replace k0 := (hP.below.cell (p := ⟨b, _, none⟩) hb).trans k0
            replace k1 := (hP.below.cell (p := ⟨b, _, none⟩) hb).trans k1
            replace k2 := (hP.below.cell (p := ⟨b, _, none⟩) hb).trans k2
            replace k3 := (hP.below.cell (p := ⟨b, _, none⟩) hb).trans k3
            have HX := Lib.hid hx
            have HN := Lib.hid (FG.out.node x (List.mem_of_getElem? hx))
            have hn64 : n ≤ 64 := by have := HN.out.2.2.1; have := hp.len; omega
            have HPL := Lib.hid hp.len
            have hP1 := SSt.box (cs := #[.int .i64 x.kind, .int .i64 x.scope, .int .i64 x.arg, .slice A n cap]) (t := 43) hP (by decide)
            have HP1 := Lib.hid hP1
            have hsz2 := hP.sz
            have hsz3 := hP.ge
            have HQ := Lib.hid hp
            have hbw : b < wr.heap.size := by omega
            have hk32 : k < 32 := by omega
            have hnb : wr.heap.size ≠ bw := by omega
            have HIp := Lib.hid i1
            have HIq := Lib.hid i2
            clear hx hx' h3 hp hP1 hP HP3 i0 i1 i2
            unfold maxLen at km
            go_upto_region 13 with fail
            generalize hWW : wr.alloc (.cells #[.int .i64 x.kind, .int .i64 x.scope, .int .i64 x.arg, .slice A n cap] 43) = W1 at HP1 ⊢
            generalize wr.heap.size = nb at HP1
            go_cut [69] (fun _ wx => SSt w.heap.size w bw ((scopesL g).flatMap scopeT ++ (g.nodes.take k).flatMap nodeT ++ lineOf [wNode, nmOf kindsL x.kind, Lib.itoa x.scope, Lib.itoa x.arg]) (700 + 7000 * k + 100) ((g.nodes.take k).any nodeBadNm || !nmOK kindsL x.kind) [(nb, #[.int .i64 x.kind, .int .i64 x.scope, .int .i64 x.arg, .slice A n cap], 43), (w.heap.size, #[.slice Pa pn pc, .slice Ba bn bc, .slice (some ⟨b, o, none⟩) nn nc, .slice Ea en ec], 26)] wx)
            case first =>
              have hP2 := HP1.out
              have f : W1.cell? ⟨nb, 0, none⟩ = some (.int .i64 x.kind) ∧ W1.cell? ⟨nb, 1, none⟩ = some (.int .i64 x.scope) ∧ W1.cell? ⟨nb, 2, none⟩ = some (.int .i64 x.arg) := node_cells hP2 (by first | exact .head _ | exact .tail _ (.head _))
              obtain ⟨f0, f1, f2⟩ := f
              clear k0 k1 k2 k3 HP1
              go_region_held3 (fun W => W.cell? ⟨nb, 0, none⟩ = some (.int .i64 x.kind) ∧ W.cell? ⟨nb, 1, none⟩ = some (.int .i64 x.scope) ∧ W.cell? ⟨nb, 2, none⟩ = some (.int .i64 x.arg)) (first | exact ⟨f0, f1, f2⟩ | exact ⟨Lib.cell?_alloc_marked _ f0, Lib.cell?_alloc_marked _ f1, Lib.cell?_alloc_marked _ f2⟩ | fail)
                (first
                  | (go_at_call 13; refine (itoa_st (by first | exact hP2 | exact hP2.drew) _ HIp.out).mono ?_; rintro e w2 ⟨rfl, hP2⟩; obtain ⟨f0, f1, f2⟩ : w2.cell? ⟨nb, 0, none⟩ = some (.int .i64 x.kind) ∧ w2.cell? ⟨nb, 1, none⟩ = some (.int .i64 x.scope) ∧ w2.cell? ⟨nb, 2, none⟩ = some (.int .i64 x.arg) := node_cells hP2 (by first | exact .head _ | exact .tail _ (.head _)))
                  | (go_at_call 16; refine (num_st (by first | exact hP2 | exact hP2.drew) _ HIq.out).mono ?_; rintro e w2 ⟨rfl, hP2⟩; obtain ⟨f0, f1, f2⟩ : w2.cell? ⟨nb, 0, none⟩ = some (.int .i64 x.kind) ∧ w2.cell? ⟨nb, 1, none⟩ = some (.int .i64 x.scope) ∧ w2.cell? ⟨nb, 2, none⟩ = some (.int .i64 x.arg) := node_cells hP2 (by first | exact .head _ | exact .tail _ (.head _)))
                  | (go_at_call 15; refine (kinds_st (by first | exact hP2 | exact hP2.drew)).mono ?_; rintro e w2 ⟨bk, rfl, hP2⟩; obtain ⟨f0, f1, f2⟩ : w2.cell? ⟨nb, 0, none⟩ = some (.int .i64 x.kind) ∧ w2.cell? ⟨nb, 1, none⟩ = some (.int .i64 x.scope) ∧ w2.cell? ⟨nb, 2, none⟩ = some (.int .i64 x.arg) := node_cells hP2 (by first | exact .head _ | exact .tail _ (.head _)))
                  | (go_at_call 14; refine (name_st (by first | exact hP2 | exact hP2.drew) _ _ _ kindsL_len (by omega)).mono ?_; rintro e w2 ⟨rfl, hP2⟩; obtain ⟨f0, f1, f2⟩ : w2.cell? ⟨nb, 0, none⟩ = some (.int .i64 x.kind) ∧ w2.cell? ⟨nb, 1, none⟩ = some (.int .i64 x.scope) ∧ w2.cell? ⟨nb, 2, none⟩ = some (.int .i64 x.arg) := node_cells hP2 (by first | exact .head _ | exact .tail _ (.head _)))
                  | (go_at_call 12; have hz := SSt.box (cs := nameCells [wNode, nmOf kindsL x.kind, Lib.itoa x.scope, Lib.itoa x.arg]) (t := 9) hP2 (by decide); refine (say_st (k := 100) (m := 4) (by first | exact hz | exact hz.drew) [wNode, nmOf kindsL x.kind, Lib.itoa x.scope, Lib.itoa x.arg] rfl rfl (nodeLine_len HIp.out HIq.out) (by omega)).mono ?_; rintro e w2 ⟨rfl, hP2⟩; obtain ⟨f0, f1, f2⟩ : w2.cell? ⟨nb, 0, none⟩ = some (.int .i64 x.kind) ∧ w2.cell? ⟨nb, 1, none⟩ = some (.int .i64 x.scope) ∧ w2.cell? ⟨nb, 2, none⟩ = some (.int .i64 x.arg) := node_cells hP2 (by first | exact .head _ | exact .tail _ (.head _)))
                  | fail)
              all_goals (go_wp2_with fail; go_meet; exact hP2)
            case rest =>
              have f3 := hcut.cell (i := 3) (.head _) rfl
              have HP4 := Lib.hid hcut
              clear hcut hWW k0 k1 k2 k3 HP1
              go_wp2_with fail
              clear f3
              go_loopw [73] (fun i wr => ∃ j : Nat, j ≤ n ∧ i = .int .i64 j ∧ SSt w.heap.size w bw ((scopesL g).flatMap scopeT ++ (g.nodes.take k).flatMap nodeT ++ lineOf [wNode, nmOf kindsL x.kind, Lib.itoa x.scope, Lib.itoa x.arg] ++ (x.prog.take j).flatMap insT) (700 + 7000 * k + 100 + 100 * j) ((g.nodes.take k).any nodeBadNm || (!nmOK kindsL x.kind || (x.prog.take j).any insBadNm)) [(w.heap.size, #[.slice Pa pn pc, .slice Ba bn bc, .slice (some ⟨b, o, none⟩) nn nc, .slice Ea en ec], 26)] wr) (fun i _ => n - (intOf i).toNat)
              case atStart => exact ⟨0, by omega, rfl, by simpa using HP4.out.less (Y := [(w.heap.size, #[.slice Pa pn pc, .slice Ba bn bc, .slice (some ⟨b, o, none⟩) nn nc, .slice Ea en ec], 26)]) (fun _ hy => .tail _ hy)⟩
              case round =>
                obtain ⟨j, hj, rfl, hP⟩ := hrel
                by_cases hltj : j < n
                · obtain ⟨b2, o2, y, rfl, hb2, hy, hy', q0, q1, j0, j1⟩ := HQ.out.at_ hltj
                  simp only [Rep.ins, Nat.add_zero] at q0 q1
                  replace q0 := (hP.below.cell (p := ⟨b2, _, none⟩) hb2).trans q0
                  replace q1 := (hP.below.cell (p := ⟨b2, _, none⟩) hb2).trans q1
                  have HY := Lib.hid hy
                  have hP1 := SSt.box (cs := #[.int .i64 y.op, .int .i64 y.n]) (t := 59) hP (by decide)
                  have HP1 := Lib.hid hP1
                  have hsz4 := hP.sz
                  have hsz5 := hP.ge
                  have hbw2 : b2 < wr.heap.size := by omega
                  have hj64 : j < 64 := by omega
                  have HJ := Lib.hid j1
                  clear hy hy' hP1 hP HP4 j0 j1
                  go_upto_region 17 with fail
                  generalize hWW : wr.alloc (.cells #[.int .i64 y.op, .int .i64 y.n] 59) = W1 at HP1 ⊢
                  generalize wr.heap.size = nb2 at HP1
                  have hP2 := HP1.out
                  have f : W1.cell? ⟨nb2, 0, none⟩ = some (.int .i64 y.op) ∧ W1.cell? ⟨nb2, 1, none⟩ = some (.int .i64 y.n) := ins_cells hP2 (by first | exact .head _ | exact .tail _ (.head _))
                  obtain ⟨f0, f1⟩ := f
                  clear q0 q1 HP1
                  go_region_held3 (fun W => W.cell? ⟨nb2, 0, none⟩ = some (.int .i64 y.op) ∧ W.cell? ⟨nb2, 1, none⟩ = some (.int .i64 y.n)) (first | exact ⟨f0, f1⟩ | exact ⟨Lib.cell?_alloc_marked _ f0, Lib.cell?_alloc_marked _ f1⟩ | fail)
                    (first
                      | (go_at_call 16; refine (num_st (by first | exact hP2 | exact hP2.drew) _ HJ.out).mono ?_; rintro e w2 ⟨rfl, hP2⟩; obtain ⟨f0, f1⟩ : w2.cell? ⟨nb2, 0, none⟩ = some (.int .i64 y.op) ∧ w2.cell? ⟨nb2, 1, none⟩ = some (.int .i64 y.n) := ins_cells hP2 (by first | exact .head _ | exact .tail _ (.head _)))
                      | (go_at_call 17; refine (codes_st (by first | exact hP2 | exact hP2.drew)).mono ?_; rintro e w2 ⟨bk, rfl, hP2⟩; obtain ⟨f0, f1⟩ : w2.cell? ⟨nb2, 0, none⟩ = some (.int .i64 y.op) ∧ w2.cell? ⟨nb2, 1, none⟩ = some (.int .i64 y.n) := ins_cells hP2 (by first | exact .head _ | exact .tail _ (.head _)))
                      | (go_at_call 14; refine (name_st (by first | exact hP2 | exact hP2.drew) _ _ _ codesL_len (by omega)).mono ?_; rintro e w2 ⟨rfl, hP2⟩; obtain ⟨f0, f1⟩ : w2.cell? ⟨nb2, 0, none⟩ = some (.int .i64 y.op) ∧ w2.cell? ⟨nb2, 1, none⟩ = some (.int .i64 y.n) := ins_cells hP2 (by first | exact .head _ | exact .tail _ (.head _)))
                      | (go_at_call 12; have hz := SSt.box (cs := nameCells [wIns, nmOf codesL y.op, Lib.itoa y.n]) (t := 9) hP2 (by decide); refine (say_st (k := 100) (m := 3) (by first | exact hz | exact hz.drew) [wIns, nmOf codesL y.op, Lib.itoa y.n] rfl rfl (ins_len HJ.out) (by omega)).mono ?_; rintro e w2 ⟨rfl, hP2⟩; obtain ⟨f0, f1⟩ : w2.cell? ⟨nb2, 0, none⟩ = some (.int .i64 y.op) ∧ w2.cell? ⟨nb2, 1, none⟩ = some (.int .i64 y.n) := ins_cells hP2 (by first | exact .head _ | exact .tail _ (.head _)))
                      | fail)
                  all_goals
                    have HP3 := Lib.hid (show_ins (hP2.less (Y := [(w.heap.size, #[.slice Pa pn pc, .slice Ba bn bc, .slice (some ⟨b, o, none⟩) nn nc, .slice Ea en ec], 26)]) (fun _ hy => .tail _ hy)) HY.out)
                    clear f0 f1 hP2 hz
                    go_wp2_with fail
                    go_roundw
                    case rel => exact ⟨j + 1, by omega, by go_num, HP3.out⟩
                    case measure => simp [intOf]; omega
                · have HP5 := Lib.hid (show_node hP HX.out (show x.prog.length ≤ j by have := HPL.out; omega) (by omega))
                  clear hP HP4
                  go_wp2_with fail
                  go_roundw
                  case rel => exact ⟨k + 1, by omega, by go_num, HP5.out⟩
                  case measure => simp [intOf]; omega
          · have hP2 : SSt w.heap.size w bw ((scopesL g).flatMap scopeT ++ g.nodes.flatMap nodeT) 224700 (badNodes g) [(w.heap.size, #[.slice Pa pn pc, .slice Ba bn bc, .slice Na nn nc, .slice Ea en ec], 26)] wr := by
              have h0 : g.nodes.take k = g.nodes := List.take_of_length_le (by have := HL.out.2.2.1; omega)
              rw [h0] at hP
              exact { hP with le := by have := hP.le; omega }
            have e3 := hP2.cell (i := 3) (List.mem_cons_self ..) rfl
            have HP5 := Lib.hid hP2
            clear hP hP2 HP3
            go_wp2_with fail
            clear e3
            go_loopw [93] (fun i wr => ∃ k : Nat, k ≤ en ∧ i = .int .i64 k ∧ SSt w.heap.size w bw ((scopesL g).flatMap scopeT ++ g.nodes.flatMap nodeT ++ (g.edges.take k).flatMap edgeT) (224700 + 100 * k) (badNodes g) [(w.heap.size, #[.slice Pa pn pc, .slice Ba bn bc, .slice Na nn nc, .slice Ea en ec], 26)] wr) (fun i _ => en - (intOf i).toNat)
            case atStart => exact ⟨0, by omega, rfl, by simpa using HP5.out⟩
            case round =>
              clear hk hlt
              obtain ⟨k, hk, rfl, hP⟩ := hrel
              by_cases hlt : k < en
              · obtain ⟨-, -, -, h4⟩ := M1.out
                obtain ⟨b, o, x, rfl, hb, hx, hx', k0, k1, k2, k3, i0, i1, i2⟩ := h4.at_ hlt
                simp only [Rep.edge, Nat.add_zero] at k0 k1 k2 k3
                replace k0 := (hP.below.cell (p := ⟨b, _, none⟩) hb).trans k0
                replace k1 := (hP.below.cell (p := ⟨b, _, none⟩) hb).trans k1
                replace k2 := (hP.below.cell (p := ⟨b, _, none⟩) hb).trans k2
                replace k3 := (hP.below.cell (p := ⟨b, _, none⟩) hb).trans k3
                have HX := Lib.hid hx
                have hP1 := SSt.box (cs := #[.int .i64 x.frm, .int .i64 x.dst, .int .i64 x.port, .bool x.ex]) (t := 45) hP (by decide)
                have HP1 := Lib.hid hP1
                have hsz2 := hP.sz
                have hsz3 := hP.ge
                have hbw : b < wr.heap.size := by omega
                have hk32 : k < 64 := by omega
                have HI0 := Lib.hid i0
                have HI1 := Lib.hid i1
                have HI2 := Lib.hid i2
                clear hx hx' h4 hP1 hP HP5 i0 i1 i2
                cases hex : x.ex
                · rw [hex] at k3 HP1
                  go_upto_region 26 with fail
                  generalize hWW : wr.alloc (.cells #[.int .i64 x.frm, .int .i64 x.dst, .int .i64 x.port, .bool false] 45) = W1 at HP1 ⊢
                  generalize wr.heap.size = nb2 at HP1
                  have hP2 := HP1.out
                  have f : W1.cell? ⟨nb2, 0, none⟩ = some (.int .i64 x.frm) ∧ W1.cell? ⟨nb2, 1, none⟩ = some (.int .i64 x.dst) ∧ W1.cell? ⟨nb2, 2, none⟩ = some (.int .i64 x.port) := node_cells hP2 (by first | exact .head _ | exact .tail _ (.head _))
                  obtain ⟨f0, f1, f2⟩ := f
                  clear k0 k1 k2 k3 HP1
                  go_region_held3 (fun W => W.cell? ⟨nb2, 0, none⟩ = some (.int .i64 x.frm) ∧ W.cell? ⟨nb2, 1, none⟩ = some (.int .i64 x.dst) ∧ W.cell? ⟨nb2, 2, none⟩ = some (.int .i64 x.port)) (first | exact ⟨f0, f1, f2⟩ | exact ⟨Lib.cell?_alloc_marked _ f0, Lib.cell?_alloc_marked _ f1, Lib.cell?_alloc_marked _ f2⟩ | fail)
                    (first
                      | (go_at_call 13; refine (itoa_st (by first | exact hP2 | exact hP2.drew) _ (by first | exact HI0.out | exact HI1.out | exact HI2.out)).mono ?_; rintro e w2 ⟨rfl, hP2⟩; obtain ⟨f0, f1, f2⟩ : w2.cell? ⟨nb2, 0, none⟩ = some (.int .i64 x.frm) ∧ w2.cell? ⟨nb2, 1, none⟩ = some (.int .i64 x.dst) ∧ w2.cell? ⟨nb2, 2, none⟩ = some (.int .i64 x.port) := node_cells hP2 (by first | exact .head _ | exact .tail _ (.head _)))
                      | (go_at_call 12; have hz := SSt.box (cs := nameCells [wEdge, Lib.itoa x.frm, Lib.itoa x.dst, Lib.itoa x.port, wPipe]) (t := 9) hP2 (by decide); refine (say_st (k := 100) (m := 5) (by first | exact hz | exact hz.drew) [wEdge, Lib.itoa x.frm, Lib.itoa x.dst, Lib.itoa x.port, wPipe] rfl rfl (edge_len HI0.out HI1.out HI2.out _ (by decide)) (by omega)).mono ?_; rintro e w2 ⟨rfl, hP2⟩; obtain ⟨f0, f1, f2⟩ : w2.cell? ⟨nb2, 0, none⟩ = some (.int .i64 x.frm) ∧ w2.cell? ⟨nb2, 1, none⟩ = some (.int .i64 x.dst) ∧ w2.cell? ⟨nb2, 2, none⟩ = some (.int .i64 x.port) := node_cells hP2 (by first | exact .head _ | exact .tail _ (.head _)))
                      | fail)
                  all_goals
                    have HP3 := Lib.hid (show_edge (hP2.less (Y := [(w.heap.size, #[.slice Pa pn pc, .slice Ba bn bc, .slice Na nn nc, .slice (some ⟨b, o, none⟩) en ec], 26)]) (fun _ hy => .tail _ hy)) HX.out (by rw [hex]; rfl))
                    clear f0 f1 f2 hP2 hz
                    go_wp2_with fail
                    go_roundw
                    case rel => exact ⟨k + 1, by omega, by go_num, HP3.out⟩
                    case measure => simp [intOf]; omega
                · rw [hex] at k3 HP1
                  go_upto_region 26 with fail
                  generalize hWW : wr.alloc (.cells #[.int .i64 x.frm, .int .i64 x.dst, .int .i64 x.port, .bool true] 45) = W1 at HP1 ⊢
                  generalize wr.heap.size = nb2 at HP1
                  have hP2 := HP1.out
                  have f : W1.cell? ⟨nb2, 0, none⟩ = some (.int .i64 x.frm) ∧ W1.cell? ⟨nb2, 1, none⟩ = some (.int .i64 x.dst) ∧ W1.cell? ⟨nb2, 2, none⟩ = some (.int .i64 x.port) := node_cells hP2 (by first | exact .head _ | exact .tail _ (.head _))
                  obtain ⟨f0, f1, f2⟩ := f
                  clear k0 k1 k2 k3 HP1
                  go_region_held3 (fun W => W.cell? ⟨nb2, 0, none⟩ = some (.int .i64 x.frm) ∧ W.cell? ⟨nb2, 1, none⟩ = some (.int .i64 x.dst) ∧ W.cell? ⟨nb2, 2, none⟩ = some (.int .i64 x.port)) (first | exact ⟨f0, f1, f2⟩ | exact ⟨Lib.cell?_alloc_marked _ f0, Lib.cell?_alloc_marked _ f1, Lib.cell?_alloc_marked _ f2⟩ | fail)
                    (first
                      | (go_at_call 13; refine (itoa_st (by first | exact hP2 | exact hP2.drew) _ (by first | exact HI0.out | exact HI1.out | exact HI2.out)).mono ?_; rintro e w2 ⟨rfl, hP2⟩; obtain ⟨f0, f1, f2⟩ : w2.cell? ⟨nb2, 0, none⟩ = some (.int .i64 x.frm) ∧ w2.cell? ⟨nb2, 1, none⟩ = some (.int .i64 x.dst) ∧ w2.cell? ⟨nb2, 2, none⟩ = some (.int .i64 x.port) := node_cells hP2 (by first | exact .head _ | exact .tail _ (.head _)))
                      | (go_at_call 12; have hz := SSt.box (cs := nameCells [wEdge, Lib.itoa x.frm, Lib.itoa x.dst, Lib.itoa x.port, wKey]) (t := 9) hP2 (by decide); refine (say_st (k := 100) (m := 5) (by first | exact hz | exact hz.drew) [wEdge, Lib.itoa x.frm, Lib.itoa x.dst, Lib.itoa x.port, wKey] rfl rfl (edge_len HI0.out HI1.out HI2.out _ (by decide)) (by omega)).mono ?_; rintro e w2 ⟨rfl, hP2⟩; obtain ⟨f0, f1, f2⟩ : w2.cell? ⟨nb2, 0, none⟩ = some (.int .i64 x.frm) ∧ w2.cell? ⟨nb2, 1, none⟩ = some (.int .i64 x.dst) ∧ w2.cell? ⟨nb2, 2, none⟩ = some (.int .i64 x.port) := node_cells hP2 (by first | exact .head _ | exact .tail _ (.head _)))
                      | fail)
                  all_goals
                    have HP3 := Lib.hid (show_edge (hP2.less (Y := [(w.heap.size, #[.slice Pa pn pc, .slice Ba bn bc, .slice Na nn nc, .slice (some ⟨b, o, none⟩) en ec], 26)]) (fun _ hy => .tail _ hy)) HX.out (by rw [hex]; rfl))
                    clear f0 f1 f2 hP2 hz
                    go_wp2_with fail
                    go_roundw
                    case rel => exact ⟨k + 1, by omega, by go_num, HP3.out⟩
                    case measure => simp [intOf]; omega
              · have hP2 : SSt w.heap.size w bw (showText g) 300000 (badNodes g) [(w.heap.size, #[.slice Pa pn pc, .slice Ba bn bc, .slice Na nn nc, .slice Ea en ec], 26)] wr := by
                  have h0 : g.edges.take k = g.edges := List.take_of_length_le (by have := HL.out.2.2.2; omega)
                  rw [h0] at hP
                  exact { hP with le := by have := hP.le; unfold showText; omega }
                have e2 := hP2.shw.cell2
                have HP6 := Lib.hid hP2
                clear hP hP2 HP5
                cases hbad : badNodes g with
                | true =>
                  rw [hbad] at e2
                  go_wp2_with fail
                  go_ret2
                  exact ⟨by rw [showSpec_bad hbad]; rfl, HP6.out.below⟩
                | false =>
                  rw [hbad] at e2 HP6
                  go_wp2_with fail
                  refine (string_any bw bw (showText g) false _ HP6.out.shw).mono ?_
                  rintro e w2 ⟨rfl, hb2⟩
                  go_wp2_with fail
                  go_ret2
                  exact ⟨by rw [showSpec_ok hfit hbad]; rfl, HP6.out.below.trans (hb2.mono HP6.out.ge)⟩
  · have hff : fitsB g = false := by simpa using hfit
    have hE := hno hff
    subst hE
    have HZ := Lib.hid (showSpec_unfit hff)
    clear hno hyes hbx HFF hb1
    go_wp2_with fail
    go_ret2
    exact ⟨by rw [HZ.out]; rfl, hbw⟩

end Go.Proofs.YtigdaaloagecgaaGreatDoor
