/-
  graph.Put: its walk, joined. No condition.
-/
import Derived.Test.YtigdaaloagecgaaGreatDoorPut
import Derived.Deep.RegionHeld3
import Derived.Lib.SlBytesConst
namespace Go.Proofs.YtigdaaloagecgaaGreatDoor
open Go.RowKit

theorem scopes_at {g : Gr} {k : Nat} {p q : Int} (hp : g.parent[k + 1]? = some p) (hq : g.bound[k + 1]? = some q) : (scopesL g)[k]? = some (p, q) := by
  unfold scopesL
  rw [List.getElem?_zip_eq_some]
  simp [List.getElem?_tail, hp, hq]
theorem scopes_len {g : Gr} (h : g.bound.length = g.parent.length) : (scopesL g).length = g.parent.length - 1 := by
  unfold scopesL; simp; omega

/-- the head and the numbers so far -/
def head1 (g : Gr) : List UInt8 := [66, 87, 49] ++ uvs [(g.parent.length : Int)]
def head2 (g : Gr) : List UInt8 := head1 g ++ (scopesL g).flatMap scopeB ++ uvs [(g.nodes.length : Int)]
def head3 (g : Gr) : List UInt8 := head2 g ++ g.nodes.flatMap nodeB ++ uvs [(g.edges.length : Int)]

theorem heap_alloc_new (w : World) (cs : Array Value) (t : TypeId) : (w.alloc (.cells cs t)).heap[w.heap.size]? = some (.cells cs t (0, 0)) := by
  show (w.heap.push _)[w.heap.size]? = _
  simp

theorem put_start {w w1 : World} {s : GS} (hb : Below w.heap.size w w1) (hx : w1.heap[w.heap.size]? = some (.cells #[.slice s.Pa s.pn s.pc, .slice s.Ba s.bn s.bc, .slice s.Na s.nn s.nc, .slice s.Ea s.en s.ec] 26 (0, 0))) (hsz : w.heap.size < w1.heap.size) :
    PutAt w.heap.size w s (w1.heap.size + 1) [66, 87, 49] 3 ((w1.alloc (.cells #[.int .u8 66, .int .u8 87, .int .u8 49] 5 (3, 4))).alloc (.cells #[.slice (some ⟨w1.heap.size, 0, none⟩) 3 3] 70)) where
  below := (hb.alloc (by omega) _).alloc (by simp; omega) _
  box := by
    rw [((Below.refl (w1.heap.size) w1).alloc (Nat.le_refl _) (.cells #[.int .u8 66, .int .u8 87, .int .u8 49] 5 (3, 4)) |>.alloc (by simp) (.cells #[.slice (some ⟨w1.heap.size, 0, none⟩) 3 3] 70)).block _ hsz]
    exact hx
  wr := by
    refine ⟨w1.heap.size, 3, 3, by rw [show w1.heap.size + 1 = (w1.alloc (.cells #[.int .u8 66, .int .u8 87, .int .u8 49] 5 (3, 4))).heap.size by simp]; exact heap_alloc_new _ _ _, rfl, by omega, rfl, fun _ => ⟨w1.heap.size, 0, rfl, by simp; omega, fun i x hi => ?_⟩⟩
    match i, hi with
    | 0, hi => simp at hi; subst hi; simp only [Rep.byte, Nat.zero_add, Nat.mul_one, Nat.add_zero]; refine (World.cell?_alloc_lt _ _ _ (by simp)).trans ((World.cell?_alloc_mark w1 _ _ (3, 4) _).trans rfl)
    | 1, hi => simp at hi; subst hi; simp only [Rep.byte, Nat.zero_add, Nat.mul_one, Nat.add_zero]; refine (World.cell?_alloc_lt _ _ _ (by simp)).trans ((World.cell?_alloc_mark w1 _ _ (3, 4) _).trans rfl)
    | 2, hi => simp at hi; subst hi; simp only [Rep.byte, Nat.zero_add, Nat.mul_one, Nat.add_zero]; refine (World.cell?_alloc_lt _ _ _ (by simp)).trans ((World.cell?_alloc_mark w1 _ _ (3, 4) _).trans rfl)
  gt := by omega
  le := by simp

theorem scope_ok {g : Gr} (h : FitG g) {k : Nat} {p q : Int} (hp : g.parent[k + 1]? = some p) (hq : g.bound[k + 1]? = some q) : ∀ x ∈ [p, q], 0 ≤ x ∧ x ≤ 9223372036854775807 := by
  have h1 := h.parents p (List.mem_of_getElem? (i := k) (by rw [List.getElem?_tail]; exact hp))
  have h2 := h.bounds q (List.mem_of_getElem? hq)
  intro x hx
  simp at hx
  rcases hx with rfl | rfl <;> omega
theorem put_first {B b pn : Nat} {w W : World} {s : GS} {g : Gr} (h : PutAt B w s b ([66, 87, 49] ++ uvs [(pn : Int)]) (3 + 11 * 1) W) (hp : g.parent.length = pn) : PutAt B w s b (head1 g ++ ((scopesL g).take 0).flatMap scopeB) (20 + 22 * 0) W := by
  subst hp
  have e : head1 g ++ ((scopesL g).take 0).flatMap scopeB = [66, 87, 49] ++ uvs [(g.parent.length : Int)] := by simp [head1]
  rw [e]
  exact { h with le := by have := h.le; omega }

theorem put_scope {B b k : Nat} {p q : Int} {w W : World} {s : GS} {g : Gr} {l : List UInt8} (h : PutAt B w s b (l ++ ((scopesL g).take k).flatMap scopeB ++ uvs [p, q]) (20 + 22 * k + 11 * 2) W) (hx : (scopesL g)[k]? = some (p, q)) : PutAt B w s b (l ++ ((scopesL g).take (k + 1)).flatMap scopeB) (20 + 22 * (k + 1)) W := by
  rw [flat_take scopeB hx, ← List.append_assoc]
  exact { h with le := by have := h.le; simp only [scopeB] at this ⊢; omega }
theorem put_second {B b nn : Nat} {w W : World} {s : GS} {g : Gr} (h : PutAt B w s b (head1 g ++ (scopesL g).flatMap scopeB ++ uvs [(nn : Int)]) (196 + 11 * 1) W) (hn : g.nodes.length = nn) : PutAt B w s b (head2 g ++ (g.nodes.take 0).flatMap nodeB) (300 + 2000 * 0) W := by
  subst hn
  have e : head2 g ++ (g.nodes.take 0).flatMap nodeB = head1 g ++ (scopesL g).flatMap scopeB ++ uvs [(g.nodes.length : Int)] := by simp [head2]
  rw [e]
  exact { h with le := by have := h.le; omega }

theorem grown_box {W w' : World} {b nb : Nat} {o : Obj} (hg : W.grownBy w' (some b)) (hne : nb ≠ b) (h : W.heap[nb]? = some o) : w'.heap[nb]? = some o :=
  (hg.block nb (by rcases Nat.lt_or_ge nb W.heap.size with h' | h'; exact h'; simp [Array.getElem?_eq_none h'] at h) (fun e => by injection e with e; exact hne e)).trans h
def nodeHead (x : Nd) : List UInt8 := uvs [x.kind, x.scope] ++ uv (zz x.arg) ++ uvs [(x.prog.length : Int)]
theorem put_node0 {B b k n m : Nat} {w W : World} {s : GS} {x : Nd} {l : List UInt8} (h : PutAt B w s b (l ++ uvs [x.kind, x.scope] ++ uv (zz x.arg) ++ uvs [(n : Int)]) m W) (hn : x.prog.length = n) (hm : m ≤ 350 + 2000 * k + 22 * 0 := by omega) : PutAt B w s b (l ++ (nodeHead x ++ (x.prog.take 0).flatMap insB)) (350 + 2000 * k + 22 * 0) W := by
  subst hn
  have e : l ++ (nodeHead x ++ (x.prog.take 0).flatMap insB) = l ++ uvs [x.kind, x.scope] ++ uv (zz x.arg) ++ uvs [(x.prog.length : Int)] := by simp [nodeHead]
  rw [e]
  exact { h with le := by have := h.le; omega }
theorem put_ins {B b k j m : Nat} {w W : World} {s : GS} {x : Nd} {y : Ins} {l : List UInt8} (h : PutAt B w s b (l ++ (nodeHead x ++ (x.prog.take j).flatMap insB) ++ uvs [y.op] ++ uv (zz y.n)) m W) (hy : x.prog[j]? = some y) (hm : m ≤ 350 + 2000 * k + 22 * (j + 1) := by omega) : PutAt B w s b (l ++ (nodeHead x ++ (x.prog.take (j + 1)).flatMap insB)) (350 + 2000 * k + 22 * (j + 1)) W := by
  have e : l ++ (nodeHead x ++ (x.prog.take (j + 1)).flatMap insB) = l ++ (nodeHead x ++ (x.prog.take j).flatMap insB) ++ uvs [y.op] ++ uv (zz y.n) := by rw [flat_take insB hy]; simp [insB]
  rw [e]
  exact { h with le := by have := h.le; omega }
theorem put_node {B b k j m : Nat} {w W : World} {s : GS} {g : Gr} {x : Nd} {l : List UInt8} (h : PutAt B w s b (l ++ (g.nodes.take k).flatMap nodeB ++ (nodeHead x ++ (x.prog.take j).flatMap insB)) m W) (hx : g.nodes[k]? = some x) (hj : x.prog.length ≤ j) (hm : m ≤ 300 + 2000 * (k + 1)) : PutAt B w s b (l ++ (g.nodes.take (k + 1)).flatMap nodeB) (300 + 2000 * (k + 1)) W := by
  have e : l ++ (g.nodes.take (k + 1)).flatMap nodeB = l ++ (g.nodes.take k).flatMap nodeB ++ (nodeHead x ++ (x.prog.take j).flatMap insB) := by rw [flat_take nodeB hx, List.take_of_length_le hj]; simp [nodeB, nodeHead]
  rw [e]
  exact { h with le := by have := h.le; omega }

theorem put_third {B b nn : Nat} {w W : World} {s : GS} {g : Gr} (h : PutAt B w s b (head2 g ++ g.nodes.flatMap nodeB ++ uvs [(nn : Int)]) (64300 + 11 * 1) W) (hn : g.edges.length = nn) : PutAt B w s b (head3 g ++ (g.edges.take 0).flatMap edgeB) (64400 + 44 * 0) W := by
  subst hn
  have e : head3 g ++ (g.edges.take 0).flatMap edgeB = head2 g ++ g.nodes.flatMap nodeB ++ uvs [(g.edges.length : Int)] := by simp [head3]
  rw [e]
  exact { h with le := by have := h.le; omega }
theorem put_edge {B b k m : Nat} {v : Int} {w W : World} {s : GS} {g : Gr} {x : Ed} {l : List UInt8} (h : PutAt B w s b (l ++ (g.edges.take k).flatMap edgeB ++ uvs [x.frm, x.dst, x.port, v]) m W) (hx : g.edges[k]? = some x) (hv : v = if x.ex then 1 else 0) (hm : m ≤ 64400 + 44 * (k + 1) := by omega) : PutAt B w s b (l ++ (g.edges.take (k + 1)).flatMap edgeB) (64400 + 44 * (k + 1)) W := by
  subst hv
  have e : l ++ (g.edges.take (k + 1)).flatMap edgeB = l ++ (g.edges.take k).flatMap edgeB ++ uvs [x.frm, x.dst, x.port, if x.ex then 1 else 0] := by rw [flat_take edgeB hx]; simp [edgeB]
  rw [e]
  exact { h with le := by have := h.le; omega }

set_option maxHeartbeats 1600000 in
set_option maxRecDepth 100000 in
theorem put_any (s : GS) (g : Gr) (w : World) (h : GrAt w w.heap.size s g) :
    Calls Tryz.prog 10 #[s.val] w fun e w' => Below w.heap.size w w' ∧ (fitsB g = false → e = .returned (.tuple #[.slice none 0 0, .int .i64 1])) ∧
      (fitsB g = true → ∃ g1 m cap, e = .returned (.tuple #[.slice (some ⟨g1, 0, none⟩) m cap, .int .i64 0]) ∧ m = (putBytes g).length ∧ m ≤ 100000 ∧ Arr Rep.byte w' w'.heap.size (some ⟨g1, 0, none⟩) m (putBytes g)) := by
  have HF := fun (o : Obj) => fits_any s g (w.alloc o) ((h.keep (Same.alloc (Nat.le_refl _) o)).more (by simp))
  obtain ⟨Pa, pn, pc, Ba, bn, bc, Na, nn, nc, Ea, en, ec⟩ := s
  obtain ⟨h1, h2, h3, h4, c1, c2, c3, c4, m1, m2, m3, m4⟩ := h
  simp only at h1 h2 h3 h4 c1 c2 c3 c4 m1 m2 m3 m4
  unfold maxLen at m1 m2 m3 m4
  have HL := Lib.hid (And.intro h1.len (And.intro h2.len (And.intro h3.len h4.len)))
  unfold GS.val at HF ⊢
  have HFF := Lib.hid HF
  clear HF
  go_enter Tryz.func10, Tryz.ntmps10
  go_wp2_with fail
  refine (HFF.out _).mono ?_
  rintro e w1 ⟨rfl, hb1⟩
  by_cases hfit : fitsB g = true
  · have FG := Lib.hid (fitG hfit)
    rw [hfit]
    have hbx : w1.heap[w.heap.size]? = some (.cells #[.slice Pa pn pc, .slice Ba bn bc, .slice Na nn nc, .slice Ea en ec] 26 (0, 0)) := (hb1.block _ (by simp)).trans (heap_alloc_new _ _ _)
    have hbw := (((Below.refl w.heap.size w).alloc (Nat.le_refl _) (.cells #[.slice Pa pn pc, .slice Ba bn bc, .slice Na nn nc, .slice Ea en ec] 26)).trans (hb1.mono (by simp)))
    have hsz : w.heap.size < w1.heap.size := by have := hb1.size; simp at this; omega
    have P0 := put_start (s := ⟨Pa, pn, pc, Ba, bn, bc, Na, nn, nc, Ea, en, ec⟩) hbw hbx hsz
    obtain ⟨l1, l2, l3, l4⟩ := HL.out
    have hpn := FG.out.lo
    have hpm := FG.out.hi
    rw [l1] at hpn hpm
    have HP := Lib.hid P0
    have e0 := P0.c0
    have M1 := Lib.hid (And.intro h1 (And.intro h2 (And.intro h3 h4)))
    clear P0 h1 h2 h3 h4 l1 l2 l3 l4 hbx hbw hb1
    simp only at e0
    have kc := fun (w : World) (C : Array Value) (n c : Nat) => Lib.run_convert_bytes_const (P := Tryz.prog) w 36 5 C n c Tryz.underlying36 Tryz.underlying5
    obtain ⟨i0, hi, hz0, hz1, hz2⟩ := info_parts Tryz.info3
    have hcut := fun W : World => run_cut (P := Tryz.prog) 22 3 i0 Tryz.underlying22 hi 1 hz1 Pa pn pc 1 hpn W
    generalize cutA Pa pc 1 1 = A1 at hcut
    simp only [Int.ofNat_one] at hcut
    go_wp2_with fail
    refine (HP.out.add (by simp) _ [(pn : Int)] 1 rfl rfl (by simp; omega) (by omega)).mono ?_
    clear e0 kc
    rintro e w2 ⟨rfl, hP2, -⟩
    generalize w1.heap.size + 1 = bw at hP2
    have e0 := hP2.c0
    have HP2 := Lib.hid hP2
    clear hP2 HP
    simp only at e0
    go_wp2_with fail
    clear e0
    go_loopw [30] (fun i wr => ∃ k : Nat, k ≤ pn - 1 ∧ i = .int .i64 k ∧ PutAt w.heap.size w ⟨Pa, pn, pc, Ba, bn, bc, Na, nn, nc, Ea, en, ec⟩ bw (head1 g ++ ((scopesL g).take k).flatMap scopeB) (20 + 22 * k) wr) (fun i _ => pn - 1 - (intOf i).toNat)
    case atStart => exact ⟨0, by omega, rfl, put_first HP2.out (by have := HL.out.1; omega)⟩
    case round =>
      obtain ⟨k, hk, rfl, hP⟩ := hrel
      by_cases hlt : k < pn - 1
      · obtain ⟨h1, h2, -, -⟩ := M1.out
        obtain ⟨pb, po, p, rfl, hpb, hx, hx', hc, i1, i2⟩ := h1.at_ (k := k + 1) (by omega)
        obtain ⟨qb, qo, q, rfl, hqb, hy, hy', hd, j1, j2⟩ := h2.at_ (k := k + 1) (by have := HL.out.2.1; have := HL.out.1; have := FG.out.same; omega)
        simp only [Rep.int, Nat.mul_one, Nat.add_zero] at hc hd
        have HC := Lib.hid (And.intro hc hd)
        replace hc := (hP.below.cell (p := ⟨pb, po + (k + 1), none⟩) hpb).trans hc
        replace hd := (hP.below.cell (p := ⟨qb, qo + (k + 1), none⟩) hqb).trans hd
        have HX := Lib.hid (scopes_at hx hy)
        have e0 := hP.c0
        have e1 := hP.c1
        have HP := Lib.hid hP
        have hsz2 := hP.size
        have HI := Lib.hid (show ∀ x ∈ [p, q], 0 ≤ x ∧ x ≤ 9223372036854775807 from scope_ok FG.out hx hy)
        simp only at e0 e1
        clear hx hx' hy hy' h1 h2 hP i1 i2 j1 j2 HP2
        have hpb2 : pb < wr.heap.size := by omega
        have hqb2 : qb < wr.heap.size := by omega
        have hw0 : IntKind.i64.wrap (1 + (k : Int)) = 1 + (k : Int) := by rw [IntKind.wrap_i64]; omega
        have hw1 : (1 + (k : Int)).toNat = k + 1 := by omega
        have hw2 : (0 : Int) ≤ 1 + (k : Int) := by omega
        have hw3 : 1 + (k : Int) < (pn : Int) := by omega
        have hw4 : 1 + (k : Int) < (bn : Int) := by have := HL.out.2.1; have := HL.out.1; have := FG.out.same; omega
        have hkb : k + 1 < bn := by have := HL.out.2.1; have := HL.out.1; have := FG.out.same; omega
        go_upto_region 8 with fail
        go_region_held3 (fun W => W.cell? ⟨w.heap.size, 0, none⟩ = some (.slice (some ⟨pb, po, none⟩) pn pc) ∧ W.cell? ⟨w.heap.size, 1, none⟩ = some (.slice (some ⟨qb, qo, none⟩) bn bc) ∧ W.cell? ⟨pb, po + (k + 1), none⟩ = some (.int .i64 p) ∧ W.cell? ⟨qb, qo + (k + 1), none⟩ = some (.int .i64 q)) (simp [go_sem, World.cell?_alloc_past, *]) ((go_at_call 28; refine (HP.out.addD (by simp) _ [p, q] 2 rfl rfl HI.out (by omega)).mono ?_; rintro e w2 ⟨rfl, hP2, -⟩; have f0 := hP2.c0; have f1 := hP2.c1; simp only at f0 f1; have f2 := (hP2.below.cell (p := ⟨pb, po + (k + 1), none⟩) hpb).trans HC.out.1; have f3 := (hP2.below.cell (p := ⟨qb, qo + (k + 1), none⟩) hqb).trans HC.out.2))
        have HP3 := Lib.hid (put_scope hP2 HX.out)
        clear f0 f1 f2 f3 e0 e1 hc hd hP2 HP hcut
        go_wp2_with fail
        go_roundw
        case rel => exact ⟨k + 1, by omega, by go_num, HP3.out⟩
        case measure => simp [intOf]; omega
      · have hP2 : PutAt w.heap.size w ⟨Pa, pn, pc, Ba, bn, bc, Na, nn, nc, Ea, en, ec⟩ bw (head1 g ++ (scopesL g).flatMap scopeB) 196 wr := by
          have h0 : (scopesL g).take k = scopesL g := List.take_of_length_le (by rw [scopes_len FG.out.same, HL.out.1]; omega)
          rw [h0] at hP
          exact { hP with le := by have := hP.le; omega }
        have e2 := hP2.c2
        have HP3 := Lib.hid hP2
        simp only at e2
        clear hP hP2 HP2 hcut
        have hnn : nn ≤ 32 := by have := HL.out.2.2.1; have := FG.out.nodes; omega
        have hen : en ≤ 64 := by have := HL.out.2.2.2; have := FG.out.edges; omega
        go_wp2_with fail
        refine (HP3.out.add (by simp) _ [(nn : Int)] 1 rfl rfl (by simp; omega) (by omega)).mono ?_
        rintro e w3 ⟨rfl, hP4, -⟩
        clear e2
        have e2 := hP4.c2
        have HP4 := Lib.hid hP4
        simp only at e2
        clear hP4 HP3
        go_wp2_with fail
        clear e2
        go_loopw [58] (fun i wr => ∃ k : Nat, k ≤ nn ∧ i = .int .i64 k ∧ PutAt w.heap.size w ⟨Pa, pn, pc, Ba, bn, bc, Na, nn, nc, Ea, en, ec⟩ bw (head2 g ++ (g.nodes.take k).flatMap nodeB) (300 + 2000 * k) wr) (fun i _ => nn - (intOf i).toNat)
        case atStart => exact ⟨0, by omega, rfl, put_second HP4.out (by have := HL.out.2.2.1; omega)⟩
        case round =>
          clear hk hlt
          obtain ⟨k, hk, rfl, hP⟩ := hrel
          by_cases hlt : k < nn
          · obtain ⟨-, -, h3, -⟩ := M1.out
            obtain ⟨b, o, x, rfl, hb, hx, hx', k0, k1, k2, ⟨i0, i0'⟩, ⟨i1, i1'⟩, _, A, n, cap, k3, kn, km, hp⟩ := h3.at_ hlt
            simp only [Rep.node, Nat.add_zero] at k0 k1 k2 k3
            replace k0 := (hP.below.cell (p := ⟨b, _, none⟩) hb).trans k0
            replace k1 := (hP.below.cell (p := ⟨b, _, none⟩) hb).trans k1
            replace k2 := (hP.below.cell (p := ⟨b, _, none⟩) hb).trans k2
            replace k3 := (hP.below.cell (p := ⟨b, _, none⟩) hb).trans k3
            have HX := Lib.hid hx
            have HN := Lib.hid (FG.out.node x (List.mem_of_getElem? hx))
            have hn64 : n ≤ 64 := by have := HN.out.2.2.1; have := hp.len; omega
            have HPL := Lib.hid hp.len
            have hPa := hP.alloc (.cells #[.int .i64 x.kind, .int .i64 x.scope, .int .i64 x.arg, .slice A n cap] 43)
            have HPa := Lib.hid hPa
            have hsz2 := hP.size
            have HQ := Lib.hid hp
            have hbw : b < wr.heap.size := by omega
            have hk32 : k < 32 := by omega
            have hnb : wr.heap.size ≠ bw := by omega
            clear hx hx' h3 hp hPa hP HP4
            unfold maxLen at km
            go_wp2_with fail
            refine (HPa.out.add (by simp) _ [x.kind, x.scope] 2 rfl rfl (by have := HN.out.1; have := HN.out.2.1; simp; omega) (by omega)).mono ?_
            rintro e w4 ⟨rfl, hP4, hg4⟩
            have hb4 := grown_box hg4 hnb (heap_alloc_new wr _ _)
            have f2 : w4.cell? ⟨wr.heap.size, 2, none⟩ = some (.int .i64 x.arg) := by rw [Lib.cell_of_heap hb4]; rfl
            have HP4 := Lib.hid (And.intro hP4 hb4)
            clear hP4 hb4 hg4 HPa k0 k1 k2 k3
            go_wp2_with fail
            refine (HP4.out.1.sign x.arg (by omega)).mono ?_
            rintro e w5 ⟨rfl, hP5, hg5⟩
            have hb5 := grown_box hg5 hnb HP4.out.2
            clear f2
            have f3 : w5.cell? ⟨wr.heap.size, 3, none⟩ = some (.slice A n cap) := by rw [Lib.cell_of_heap hb5]; rfl
            have HP5 := Lib.hid (And.intro hP5 hb5)
            clear hP5 hb5 hg5 HP4
            go_wp2_with fail
            refine (HP5.out.1.add (by simp) _ [(n : Int)] 1 rfl rfl (by simp; omega) (by omega)).mono ?_
            rintro e w6 ⟨rfl, hP6, hg6⟩
            have hb6 := grown_box hg6 hnb HP5.out.2
            clear f3
            have f3 : w6.cell? ⟨wr.heap.size, 3, none⟩ = some (.slice A n cap) := by rw [Lib.cell_of_heap hb6]; rfl
            have HP6 := Lib.hid hP6
            clear hP6 hb6 hg6 HP5
            go_wp2_with fail
            clear f3
            go_loopw [82] (fun i wr' => ∃ j : Nat, j ≤ n ∧ i = .int .i64 j ∧ PutAt w.heap.size w ⟨Pa, pn, pc, Ba, bn, bc, some ⟨b, o, none⟩, nn, nc, Ea, en, ec⟩ bw (head2 g ++ (g.nodes.take k).flatMap nodeB ++ (nodeHead x ++ (x.prog.take j).flatMap insB)) (350 + 2000 * k + 22 * j) wr') (fun i _ => n - (intOf i).toNat)
            case atStart => exact ⟨0, by omega, rfl, put_node0 HP6.out (by have := HPL.out; omega)⟩
            case round =>
              obtain ⟨j, hj, rfl, hP⟩ := hrel
              by_cases hltj : j < n
              · obtain ⟨b2, o2, y, rfl, hb2, hy, hy', q0, q1, _, _⟩ := HQ.out.at_ hltj
                simp only [Rep.ins, Nat.add_zero] at q0 q1
                replace q0 := (hP.below.cell (p := ⟨b2, _, none⟩) hb2).trans q0
                replace q1 := (hP.below.cell (p := ⟨b2, _, none⟩) hb2).trans q1
                have HY := Lib.hid hy
                have HYN := Lib.hid (HN.out.2.2.2 y (List.mem_of_getElem? hy))
                have hPa := hP.alloc (.cells #[.int .i64 y.op, .int .i64 y.n] 59)
                have HPa := Lib.hid hPa
                have hsz3 := hP.size
                have hbw2 : b2 < wr.heap.size := by omega
                have hj64 : j < 64 := by omega
                have hnb2 : wr.heap.size ≠ bw := by omega
                clear hy hy' hPa hP HP6
                go_wp2_with fail
                refine (HPa.out.add (by simp) _ [y.op] 1 rfl rfl (by have := HYN.out; simp; omega) (by omega)).mono ?_
                rintro e w7 ⟨rfl, hP7, hg7⟩
                have hb7 := grown_box hg7 hnb2 (heap_alloc_new wr _ _)
                have f1 : w7.cell? ⟨wr.heap.size, 1, none⟩ = some (.int .i64 y.n) := by rw [Lib.cell_of_heap hb7]; rfl
                have HP7 := Lib.hid hP7
                clear hP7 hb7 hg7 HPa q0 q1
                go_wp2_with fail
                refine (HP7.out.sign y.n (by omega)).mono ?_
                rintro e w8 ⟨rfl, hP8, -⟩
                clear f1
                have HP8 := Lib.hid (put_ins (k := k) hP8 HY.out)
                clear hP8 HP7
                go_wp2_with fail
                go_roundw
                case rel => exact ⟨j + 1, by omega, by go_num, HP8.out⟩
                case measure => simp [intOf]; omega
              · have HP8 := Lib.hid (put_node hP HX.out (show x.prog.length ≤ j by have := HPL.out; omega) (by omega))
                clear hP HP6
                go_wp2_with fail
                go_roundw
                case rel => exact ⟨k + 1, by omega, by go_num, HP8.out⟩
                case measure => simp [intOf]; omega
          · have hP2 : PutAt w.heap.size w ⟨Pa, pn, pc, Ba, bn, bc, Na, nn, nc, Ea, en, ec⟩ bw (head2 g ++ g.nodes.flatMap nodeB) 64300 wr := by
              have h0 : g.nodes.take k = g.nodes := List.take_of_length_le (by have := HL.out.2.2.1; omega)
              rw [h0] at hP
              exact { hP with le := by have := hP.le; omega }
            have e3 := hP2.c3
            have HP5 := Lib.hid hP2
            simp only at e3
            clear hP hP2 HP4
            go_wp2_with fail
            refine (HP5.out.add (by simp) _ [(en : Int)] 1 rfl rfl (by simp; omega) (by omega)).mono ?_
            rintro e w6 ⟨rfl, hP6, -⟩
            clear e3
            have e3 := hP6.c3
            have HP6 := Lib.hid hP6
            simp only at e3
            clear hP6 HP5
            go_wp2_with fail
            clear e3
            go_loopw [106] (fun i wr => ∃ k : Nat, k ≤ en ∧ i = .int .i64 k ∧ PutAt w.heap.size w ⟨Pa, pn, pc, Ba, bn, bc, Na, nn, nc, Ea, en, ec⟩ bw (head3 g ++ (g.edges.take k).flatMap edgeB) (64400 + 44 * k) wr) (fun i _ => en - (intOf i).toNat)
            case atStart => exact ⟨0, by omega, rfl, put_third HP6.out (by have := HL.out.2.2.2; omega)⟩
            case round =>
              clear hk hlt
              obtain ⟨k, hk, rfl, hP⟩ := hrel
              by_cases hlt : k < en
              · obtain ⟨-, -, -, h4⟩ := M1.out
                obtain ⟨b, o, x, rfl, hb, hx, hx', k0, k1, k2, k3, _, _, _⟩ := h4.at_ hlt
                simp only [Rep.edge, Nat.add_zero] at k0 k1 k2 k3
                replace k0 := (hP.below.cell (p := ⟨b, _, none⟩) hb).trans k0
                replace k1 := (hP.below.cell (p := ⟨b, _, none⟩) hb).trans k1
                replace k2 := (hP.below.cell (p := ⟨b, _, none⟩) hb).trans k2
                replace k3 := (hP.below.cell (p := ⟨b, _, none⟩) hb).trans k3
                have HX := Lib.hid hx
                have HN := Lib.hid (FG.out.edge x (List.mem_of_getElem? hx))
                have hPa := hP.alloc (.cells #[.int .i64 x.frm, .int .i64 x.dst, .int .i64 x.port, .bool x.ex] 45)
                have HPa := Lib.hid hPa
                have hsz2 := hP.size
                have hbw : b < wr.heap.size := by omega
                have hk32 : k < 64 := by omega
                clear hx hx' h4 hPa hP HP6
                cases hex : x.ex
                · rw [hex] at k3 HPa
                  go_wp2_with fail
                  refine (HPa.out.add (by simp) _ [x.frm, x.dst, x.port, 0] 4 rfl rfl (by have := HN.out; simp; omega) (by omega)).mono ?_
                  rintro e w7 ⟨rfl, hP7, -⟩
                  have HP7 := Lib.hid (put_edge hP7 HX.out (by rw [hex]; rfl))
                  clear hP7 HPa k0 k1 k2 k3
                  go_wp2_with fail
                  go_roundw
                  case rel => exact ⟨k + 1, by omega, by go_num, HP7.out⟩
                  case measure => simp [intOf]; omega
                · rw [hex] at k3 HPa
                  go_wp2_with fail
                  refine (HPa.out.add (by simp) _ [x.frm, x.dst, x.port, 1] 4 rfl rfl (by have := HN.out; simp; omega) (by omega)).mono ?_
                  rintro e w7 ⟨rfl, hP7, -⟩
                  have HP7 := Lib.hid (put_edge hP7 HX.out (by rw [hex]; rfl))
                  clear hP7 HPa k0 k1 k2 k3
                  go_wp2_with fail
                  go_roundw
                  case rel => exact ⟨k + 1, by omega, by go_num, HP7.out⟩
                  case measure => simp [intOf]; omega
              · have h0 : g.edges.take k = g.edges := List.take_of_length_le (by have := HL.out.2.2.2; omega)
                rw [h0] at hP
                obtain ⟨pbl, -, hwr, -, hle⟩ := hP
                obtain ⟨g1, m, cap, hbk, hm, hne, hr⟩ := hwr
                have e0 : wr.cell? ⟨bw, 0, none⟩ = some (.slice (some ⟨g1, 0, none⟩) m cap) := by rw [Lib.cell_of_heap hbk]; rfl
                have HZ := Lib.hid (And.intro pbl (And.intro hm (And.intro hle hr)))
                clear pbl hbk hm hle hr hne HP6
                go_wp2_with fail
                go_ret2
                exact ⟨HZ.out.1, fun h => absurd (hfit.symm.trans h) (by simp), fun _ => ⟨g1, m, cap, rfl, HZ.out.2.1, by have := HZ.out.2.1; have := HZ.out.2.2.1; omega, HZ.out.2.2.2⟩⟩
  · have hff : fitsB g = false := by simpa using hfit
    rw [hff]
    go_wp2_with fail
    go_ret2
    exact ⟨((Below.refl w.heap.size w).alloc (Nat.le_refl _) _).trans (hb1.mono (by simp)), fun _ => rfl, fun h => absurd h hfit⟩

end Go.Proofs.YtigdaaloagecgaaGreatDoor
