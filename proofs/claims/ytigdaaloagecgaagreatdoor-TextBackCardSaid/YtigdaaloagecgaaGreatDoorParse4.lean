/-
  text.Parse: its walk. Condition: the library's variables hold what its text lays; a text has at most 1000000 bytes.
-/
import Derived.Test.YtigdaaloagecgaaGreatDoorParse3
import Derived.Test.YtigdaaloagecgaaGreatDoorRline
import Derived.Test.YtigdaaloagecgaaGreatDoorRdGr
namespace Go.Proofs.YtigdaaloagecgaaGreatDoor
open Go.RowKit

theorem parse1_any (x : Nat) (w : World) : Calls Tryz.prog 25 #[.int .i32 x] w fun e w' => e = .returned (.bool (isSp x)) ∧ w = w' := by
  by_cases h : x = 32
  · subst h
    go_enter Tryz.func25, Tryz.ntmps25
    go_wp2
    go_ret
    exact ⟨rfl, rfl⟩
  · have hx : ((x : Int) == 32) = false := by simp; omega
    have hs : isSp x = false := by simp [isSp, h]
    rw [hs]
    go_enter Tryz.func25, Tryz.ntmps25
    go_wp2
    go_ret
    exact ⟨rfl, rfl⟩

/-- text.Parse between its lines -/
structure PSt (w : World) (H b lb : Nat) (L : List (List UInt8)) (v : Value × Value × Value × Value) (vs : List Value) (g : Gr) (W : World) : Prop where
  rd : Rd (H + 1) b v vs g 0 W
  below : Below H w W
  res : W.heap[H]? = some (.cells #[.slice none 0 0, .slice none 0 0, .slice none 0 0, .slice none 0 0] 26 (0, 0))
  lines : W.heap[lb]? = some (.cells (nameCells L) 9 (0, 0))
  libs : Libs W
  ok : OKG g
  ge : 10 ≤ H
  gt : H + 1 ≤ b

theorem fields_any (l : List UInt8) (w : World) (hl : l.length ≤ 256) : Calls Tryz.prog 24 #[.string (bs l), .func (.func 25) #[] #[]] w fun e w' => ∃ A, e = .returned (.slice (some ⟨A, 0, none⟩) (wordsOf (bs l)).length (wordsOf (bs l)).length) ∧ w.heap.size ≤ A ∧
    w'.ownsRow w.heap.size 9 1 (.slice (some ⟨A, 0, none⟩) (wordsOf (bs l)).length (wordsOf (bs l)).length) (wordsOf (bs l)).length ((wordsOf (bs l)).map fun x => Value.string (bs x)) ∧ Below w.heap.size w w' := by
  have h := Tryz.strings_FieldsFunc_grows 25 #[] (fun args w => by kernel_rfl) isSp (bs l) w (by rw [bs_size]; omega) (fun W x _ _ => (parse1_any x W).mono fun e w' ⟨he, hw⟩ => ⟨he, by subst hw; exact Below.refl _ _⟩)
  rw [fields_bs, List.length_map, List.map_map] at h
  exact h

theorem split_any (t : List UInt8) (w : World) (m : Int) (hm : w.cell? ⟨3, 0, none⟩ = some (.int .i64 m)) (ht : t.length ≤ 1000000) :
    Calls Tryz.prog 23 #[.string (bs t), .string ⟨#[10]⟩] w fun e w' => e = .returned (.slice (some ⟨w.heap.size, 0, none⟩) (linesOf t).length (linesOf t).length) ∧ w' = w.alloc (.cells (nameCells (linesOf t)) 9) := by
  have h := Tryz.strings_Split (bs t) ⟨#[10]⟩ m w (by rw [bs_size]; omega) hm (by decide)
  have hl : (linesOf t).length = Lib.countB (bs t) ⟨#[10]⟩ + 1 := by
    unfold linesOf
    rw [List.length_map]
    exact Lib.splitB_all ⟨#[10]⟩ (by decide) 0 _ (bs t) rfl
  have hc : nameCells (linesOf t) = ((Lib.splitB ⟨#[10]⟩ 0 (Lib.countB (bs t) ⟨#[10]⟩) (bs t)).map Value.string).toArray := by
    unfold nameCells linesOf
    rw [List.map_map]
    rfl
  rw [hl, hc]
  exact h
theorem lines_len_le (t : List UInt8) (ht : t.length ≤ 1000000) : 1 ≤ (linesOf t).length ∧ (linesOf t).length ≤ 1000001 := by
  have hl : (linesOf t).length = Lib.countB (bs t) ⟨#[10]⟩ + 1 := by
    unfold linesOf
    rw [List.length_map]
    exact Lib.splitB_all ⟨#[10]⟩ (by decide) 0 _ (bs t) rfl
  have := Lib.countB_le ⟨#[10]⟩ (by decide) (bs t).size (bs t) (Nat.le_refl _)
  rw [bs_size] at this
  omega
theorem own_one {W : World} {B g : Nat} {x : Int} (hB : B ≤ g) (h : W.heap[g]? = some (.cells #[.int .i64 x] 3 (0, 0))) : W.ownsRow B 3 1 (.slice (some ⟨g, 0, none⟩) 1 1) 1 (intCellsL [x]) :=
  ⟨rfl, .inr ⟨g, 1, _, rfl, hB, h, Nat.le_refl _, by unfold maxLen; omega, rfl, rfl⟩⟩
theorem alloc_at (w : World) (o : Obj) : (w.alloc o).heap[w.heap.size]? = some o := by
  show (w.heap.push o)[w.heap.size]? = _
  simp
theorem start_st (t : List UInt8) (w : World) (L : Libs w) : PSt w w.heap.size (w.heap.size + 1 + 1 + 1) (w.heap.size + 1 + 1 + 1 + 1) (linesOf t) (.slice (some ⟨w.heap.size + 1, 0, none⟩) 1 1, .slice (some ⟨w.heap.size + 1 + 1, 0, none⟩) 1 1, .slice none 0 0, .slice none 0 0) [] startG
    (((((w.alloc (.cells #[.slice none 0 0, .slice none 0 0, .slice none 0 0, .slice none 0 0] 26)).alloc (.cells #[.int .i64 (-1)] 3)).alloc (.cells #[.int .i64 0] 3)).alloc (.cells #[.slice (some ⟨w.heap.size + 1, 0, none⟩) 1 1, .slice (some ⟨w.heap.size + 1 + 1, 0, none⟩) 1 1, .slice none 0 0, .slice none 0 0, .int .i64 0] 63)).alloc (.cells (nameCells (linesOf t)) 9)) := by
  generalize ho1 : Obj.cells #[.slice none 0 0, .slice none 0 0, .slice none 0 0, .slice none 0 0] 26 = o1
  generalize ho2 : Obj.cells #[.int .i64 (-1)] 3 = o2
  generalize ho3 : Obj.cells #[.int .i64 0] 3 = o3
  generalize ho4 : Obj.cells #[.slice (some ⟨w.heap.size + 1, 0, none⟩) 1 1, .slice (some ⟨w.heap.size + 1 + 1, 0, none⟩) 1 1, .slice none 0 0, .slice none 0 0, .int .i64 0] 63 = o4
  generalize ho5 : Obj.cells (nameCells (linesOf t)) 9 = o5
  have hb := (((((Below.refl w.heap.size w).alloc (Nat.le_refl _) o1).alloc (by simp) o2).alloc (by simp; omega) o3).alloc (by simp; omega) o4).alloc (by simp; omega) o5
  have s1 : (w.alloc o1).heap.size = w.heap.size + 1 := by simp
  have s2 : ((w.alloc o1).alloc o2).heap.size = w.heap.size + 1 + 1 := by simp
  have s3 : (((w.alloc o1).alloc o2).alloc o3).heap.size = w.heap.size + 1 + 1 + 1 := by simp
  have s4 : ((((w.alloc o1).alloc o2).alloc o3).alloc o4).heap.size = w.heap.size + 1 + 1 + 1 + 1 := by simp
  have k1 : ((((((w.alloc o1).alloc o2).alloc o3).alloc o4).alloc o5).heap[w.heap.size]?) = some o1 := by
    rw [Below.heap_alloc _ _ _ (by omega), Below.heap_alloc _ _ _ (by omega), Below.heap_alloc _ _ _ (by omega), Below.heap_alloc _ _ _ (by omega)]
    exact alloc_at _ _
  have k2 : ((((((w.alloc o1).alloc o2).alloc o3).alloc o4).alloc o5).heap[w.heap.size + 1]?) = some o2 := by
    rw [Below.heap_alloc _ _ _ (by omega), Below.heap_alloc _ _ _ (by omega), Below.heap_alloc _ _ _ (by omega), ← s1]
    exact alloc_at _ _
  have k3 : ((((((w.alloc o1).alloc o2).alloc o3).alloc o4).alloc o5).heap[w.heap.size + 1 + 1]?) = some o3 := by
    rw [Below.heap_alloc _ _ _ (by omega), Below.heap_alloc _ _ _ (by omega), ← s2]
    exact alloc_at _ _
  have k4 : ((((((w.alloc o1).alloc o2).alloc o3).alloc o4).alloc o5).heap[w.heap.size + 1 + 1 + 1]?) = some o4 := by
    rw [Below.heap_alloc _ _ _ (by omega), ← s3]
    exact alloc_at _ _
  have k5 : ((((((w.alloc o1).alloc o2).alloc o3).alloc o4).alloc o5).heap[w.heap.size + 1 + 1 + 1 + 1]?) = some o5 := by
    rw [← s4]
    exact alloc_at _ _
  subst ho1; subst ho2; subst ho3; subst ho4; subst ho5
  have h10 := L.size
  exact {
    rd := {
      rb := k4
      parent := own_one (by omega) k2
      bound := own_one (by omega) k3
      nodes := World.ownsRow_nil _ _ _ _
      edges := World.ownsRow_nil _ _ _ _
      vlen := rfl
      progs := fun i x u hx _ => by simp [startG] at hx
      apart := .inr (by simp [Value.ownBlock])
      aparts := fun i j u u' _ hu => by simp at hu }
    below := hb
    res := k1
    lines := k5
    libs := L.below hb (by omega)
    ok := startG_ok
    ge := by omega
    gt := by omega }

theorem Rd.side {B b k : Nat} {v : Value × Value × Value × Value} {vs : List Value} {g : Gr} {e : Int} {W W' : World} (h : Rd B b v vs g e W) (hg : W.grownBy W' (some k)) (hk : k < B) (hkb : b ≠ k) : Rd B b v vs g e W' where
  rb := (hg.block b (heap_lt h.rb) (fun e2 => hkb (by injection e2))).trans h.rb
  parent := h.parent.kept hg (.inr (fun e2 => by have := (h.parent.lt _ e2).1; omega))
  bound := h.bound.kept hg (.inr (fun e2 => by have := (h.bound.lt _ e2).1; omega))
  nodes := h.nodes.kept hg (.inr (fun e2 => by have := (h.nodes.lt _ e2).1; omega))
  edges := h.edges.kept hg (.inr (fun e2 => by have := (h.edges.lt _ e2).1; omega))
  vlen := h.vlen
  progs := fun i x u hx hu => (h.progs i x u hx hu).kept hg (.inr (fun e2 => by have := ((h.progs i x u hx hu).lt _ e2).1; omega))
  apart := h.apart
  aparts := h.aparts
theorem set4 (W : World) (H : Nat) (a b c d : Value) : W.grownBy ((((W.setCell ⟨H, 0, none⟩ a).setCell ⟨H, 1, none⟩ b).setCell ⟨H, 2, none⟩ c).setCell ⟨H, 3, none⟩ d) (some H) :=
  grown_trans (grown_trans (grown_trans (grown_set W rfl a) (grown_set _ rfl b)) (grown_set _ rfl c)) (grown_set _ rfl d)

theorem PSt.later {w : World} {H b lb : Nat} {L : List (List UInt8)} {v : Value × Value × Value × Value} {vs : List Value} {g : Gr} {W W' : World} (h : PSt w H b lb L v vs g W) (hb : Below W.heap.size W W') : PSt w H b lb L v vs g W' where
  rd := h.rd.later hb
  below := h.below.trans (hb.mono (by have := heap_lt h.res; omega))
  res := (hb.block _ (heap_lt h.res)).trans h.res
  lines := (hb.block _ (heap_lt h.lines)).trans h.lines
  libs := h.libs.below hb (by have := heap_lt h.res; have := h.ge; omega)
  ok := h.ok
  ge := h.ge
  gt := h.gt
def noS : GS := ⟨none, 0, 0, none, 0, 0, none, 0, 0, none, 0, 0⟩
theorem grAt_no (W : World) : GrAt W W.heap.size noS noG := ⟨Arr.none_, Arr.none_, Arr.none_, Arr.none_, Nat.le_refl _, Nat.le_refl _, Nat.le_refl _, Nat.le_refl _, Nat.zero_le _, Nat.zero_le _, Nat.zero_le _, Nat.zero_le _⟩
theorem go_long {k : Nat} {l : List UInt8} {r : List (List UInt8)} {g : Gr} (h : 4096 ≤ k ∨ 256 < l.length) : parseGo k (l :: r) g = (noG, 11, (k : Int) + 1) := by rw [parseGo, if_pos h]
theorem go_idle {k : Nat} {l : List UInt8} {r : List (List UInt8)} {g : Gr} (h1 : k < 4096) (h2 : l.length ≤ 256) (h : idle (wordsOf (bs l)) = true) : parseGo k (l :: r) g = parseGo (k + 1) r g := by rw [parseGo, if_neg (by omega), if_pos h]
theorem go_bad {k : Nat} {l : List UInt8} {r : List (List UInt8)} {g : Gr} (h1 : k < 4096) (h2 : l.length ≤ 256) (h : idle (wordsOf (bs l)) = false) (h3 : (lineStep g (wordsOf (bs l)) 0).2 ≠ 0) : parseGo k (l :: r) g = (noG, (lineStep g (wordsOf (bs l)) 0).2, (k : Int) + 1) := by
  rw [parseGo, if_neg (by omega), h, if_neg (by simp), if_neg h3]
theorem go_on {k : Nat} {l : List UInt8} {r : List (List UInt8)} {g : Gr} (h1 : k < 4096) (h2 : l.length ≤ 256) (h : idle (wordsOf (bs l)) = false) (h3 : (lineStep g (wordsOf (bs l)) 0).2 = 0) : parseGo k (l :: r) g = parseGo (k + 1) r (lineStep g (wordsOf (bs l)) 0).1 := by
  rw [parseGo, if_neg (by omega), h, if_neg (by simp), if_pos h3]

set_option maxHeartbeats 1600000 in
set_option maxRecDepth 100000 in
theorem parse_any (t : List UInt8) (w : World) (L : Libs w) (ht : t.length ≤ 1000000) :
    Calls Tryz.prog 9 #[.string (bs t)] w fun r w' => ∃ s : GS, r = .returned (.tuple #[s.val, .int .i64 (parseSpec t).2.1, .int .i64 (parseSpec t).2.2]) ∧ GrAt w' w'.heap.size s (parseSpec t).1 ∧ Below w.heap.size w w' := by
  obtain ⟨m, hm⟩ := L.len
  have HST := Lib.hid (start_st t w L)
  have hLl := lines_len_le t ht
  have HM := Lib.hid hm
  have h10 := L.size
  clear L hm
  go_enter Tryz.func9, Tryz.ntmps9
  go_wp2_with fail
  refine (split_any t _ m ?hmm ht).mono ?_
  case hmm =>
    refine ((((((Below.refl w.heap.size w).alloc (Nat.le_refl _) _).alloc (by simp) _).alloc (by simp; omega) _).alloc (by simp; omega) _).cell (by simp; omega)).trans HM.out
  rintro r w1 ⟨rfl, hw1⟩
  rw [← hw1] at HST
  have HP : Hid (PSt w w.heap.size (w.heap.size + 1 + 1 + 1) (w.heap.size + 1 + 1 + 1 + 1) (linesOf t) (.slice (some ⟨w.heap.size + 1, 0, none⟩) 1 1, .slice (some ⟨w.heap.size + 1 + 1, 0, none⟩) 1 1, .slice none 0 0, .slice none 0 0) [] startG w1 ∧ parseGo 0 ((linesOf t).drop 0) startG = parseSpec t) := ⟨HST.out, rfl⟩
  clear hw1 HST HM
  simp only [World.size_alloc]
  generalize hb : w.heap.size + 1 + 1 + 1 = b at HP ⊢
  generalize hlb : b + 1 = lb at HP ⊢
  have hb1 : w.heap.size + 1 ≤ b := by omega
  clear hb hlb
  generalize hN : (linesOf t).length = N at hLl ⊢
  have HN := Lib.hid hN
  clear hN
  generalize hH : w.heap.size = H at HP h10 hb1 ⊢
  have HH := Lib.hid hH
  clear hH
  go_wp2_with fail
  go_loopw [17] (fun i wr => ∃ (k : Nat) (v : Value × Value × Value × Value) (vs : List Value) (g : Gr), k ≤ N ∧ i = .int .i64 k ∧ Hid (PSt w H b lb (linesOf t) v vs g wr ∧ parseGo k ((linesOf t).drop k) g = parseSpec t)) (fun i _ => N - (intOf i).toNat)
  case atStart => exact ⟨0, _, [], startG, Nat.zero_le _, rfl, HP.out⟩
  case round =>
    obtain ⟨k, v, vs, g, hk, rfl, HQ⟩ := hrel
    clear HP
    by_cases hlt : k < N
    · obtain ⟨l, hl⟩ : ∃ l, (linesOf t)[k]? = some l := ⟨_, List.getElem?_eq_getElem (by rw [HN.out]; exact hlt)⟩
      have hdrop : (linesOf t).drop k = l :: (linesOf t).drop (k + 1) := by
        rw [List.drop_eq_getElem_cons (by rw [HN.out]; exact hlt)]
        congr 1
        exact (List.getElem?_eq_some_iff.1 hl).2
      have HE : Hid (parseGo k (l :: (linesOf t).drop (k + 1)) g = parseSpec t) := by show _ = _; rw [← hdrop]; exact HQ.out.2
      have HS := Lib.hid HQ.out.1
      have hc : wr.cell? ⟨lb, k, none⟩ = some (.string (bs l)) := by rw [Lib.cell_of_heap HS.out.lines]; exact nameCells_at hl
      clear hdrop HQ hl
      have hls : l.length = (bs l).size := (bs_size l).symm
      have d0 : wr.cell? ⟨H, 0, none⟩ = some (.slice none 0 0) := by rw [Lib.cell_of_heap HS.out.res]; rfl
      have d1 : wr.cell? ⟨H, 1, none⟩ = some (.slice none 0 0) := by rw [Lib.cell_of_heap HS.out.res]; rfl
      have d2 : wr.cell? ⟨H, 2, none⟩ = some (.slice none 0 0) := by rw [Lib.cell_of_heap HS.out.res]; rfl
      have d3 : wr.cell? ⟨H, 3, none⟩ = some (.slice none 0 0) := by rw [Lib.cell_of_heap HS.out.res]; rfl
      have z0 : ∀ i, wr.frozen? ⟨H, i, none⟩ = false := fun i => Lib.frozen_of_heap HS.out.res i
      by_cases hlong : 4096 ≤ k ∨ 256 < (bs l).size
      · have hend : parseSpec t = (noG, 11, (k : Int) + 1) := by rw [← HE.out, go_long (by rw [hls]; exact hlong)]
        have HD := Lib.hid hend
        clear hend hls
        rcases Nat.lt_or_ge k 4096 with h4 | h4
        · have h5 : 256 < (bs l).size := by omega
          clear hlong
          go_wp2_with fail
          refine bodyPost_ret (v := .tuple #[.agg #[.slice none 0 0, .slice none 0 0, .slice none 0 0, .slice none 0 0], .int .i64 11, .int .i64 ((k : Int) + 1)]) (by simp [results, Tryz.results9, go_sem, d0, d1, d2, d3]) rfl ?_
          rw [HD.out]
          refine ⟨noS, rfl, grAt_no _, ?_⟩
          rw [HH.out]
          exact HS.out.below.trans (below_grown (set4 wr H _ _ _ _) (Nat.le_refl _) (by have := heap_lt HS.out.res; omega))
        · clear hlong
          go_wp2_with fail
          refine bodyPost_ret (v := .tuple #[.agg #[.slice none 0 0, .slice none 0 0, .slice none 0 0, .slice none 0 0], .int .i64 11, .int .i64 ((k : Int) + 1)]) (by simp [results, Tryz.results9, go_sem, d0, d1, d2, d3]) rfl ?_
          rw [HD.out]
          refine ⟨noS, rfl, grAt_no _, ?_⟩
          rw [HH.out]
          exact HS.out.below.trans (below_grown (set4 wr H _ _ _ _) (Nat.le_refl _) (by have := heap_lt HS.out.res; omega))
      · have h4 : k < 4096 := by omega
        have h5 : (bs l).size ≤ 256 := by omega
        have HW := Lib.hid (words_ok l)
        have HLS := Lib.hid hls
        have hb4 : decide ((4096 : Int) ≤ (k : Int)) = false := by simp; omega
        have hb5 : decide ((256 : Int) < ((bs l).size : Int)) = false := by simp; omega
        clear hlong hls
        go_wp2_with fail
        refine (fields_any l _ (by have := HLS.out; omega)).mono ?_
        rintro r w2 ⟨A, rfl, hA, hown, hb2⟩
        have HO := Lib.hid (And.intro hown hb2)
        have HS2 := Lib.hid (HS.out.later hb2)
        clear hown hb2 d0 d1 d2 d3 z0 hc
        have d0 : w2.cell? ⟨H, 0, none⟩ = some (.slice none 0 0) := by rw [Lib.cell_of_heap HS2.out.res]; rfl
        have d1 : w2.cell? ⟨H, 1, none⟩ = some (.slice none 0 0) := by rw [Lib.cell_of_heap HS2.out.res]; rfl
        have d2 : w2.cell? ⟨H, 2, none⟩ = some (.slice none 0 0) := by rw [Lib.cell_of_heap HS2.out.res]; rfl
        have d3 : w2.cell? ⟨H, 3, none⟩ = some (.slice none 0 0) := by rw [Lib.cell_of_heap HS2.out.res]; rfl
        have z0 : ∀ i, w2.frozen? ⟨H, i, none⟩ = false := fun i => Lib.frozen_of_heap HS2.out.res i
        generalize hws : wordsOf (bs l) = ws at HW HO ⊢
        have HWS := Lib.hid hws
        clear hws
        cases ws with
        | nil =>
          have hnx : parseGo (k + 1) ((linesOf t).drop (k + 1)) g = parseSpec t := by rw [← HE.out, go_idle h4 (by have := HLS.out; omega) (by rw [HWS.out]; rfl)]
          have HNX := Lib.hid hnx
          clear hnx
          simp only [List.length_nil]
          go_wp2_with fail
          go_roundw
          case rel => exact ⟨k + 1, v, vs, g, by omega, by go_num, HS2.out, HNX.out⟩
          case measure => simp [intOf]; omega
        | cons x xs =>
          obtain ⟨c, x', rfl⟩ : ∃ c x', x = c :: x' := List.exists_cons_of_length_pos ((HW.out.1 x (List.mem_cons_self ..)).1)
          have hx0 : w2.cell? ⟨A, 0, none⟩ = some (.string (bs (c :: x'))) := by
            have := HO.out.1.cells (g := A) rfl 0 (.string (bs (c :: x'))) rfl
            simpa [Addr.add] using this
          have hm1 : (xs.length : Int) ≤ 257 := by have q1 := HW.out.2; have q2 := HLS.out; simp at q1; omega
          simp only [List.length_cons]
          generalize hm : xs.length = m at hm1
          have HM := Lib.hid hm
          clear hm
          have hsz : 0 < (bs (c :: x')).size := by rw [bs_size]; simp
          go_wp2_with fail
          · have hq : (((bs (c :: x'))[0].toNat : Int) == 35) = true := by assumption
            have hnx : parseGo (k + 1) ((linesOf t).drop (k + 1)) g = parseSpec t := by
              rw [← HE.out, go_idle h4 (by have := HLS.out; omega)]
              rw [HWS.out]
              have h1 := beq_iff_eq.1 hq
              have h2 : c.toNat = 35 := by have : (bs (c :: x'))[0] = c := rfl; rw [this] at h1; omega
              have h3 : c = 35 := UInt8.toNat_inj.1 h2
              subst h3; rfl
            have HNX := Lib.hid hnx
            clear hnx
            go_roundw
            case rel => exact ⟨k + 1, v, vs, g, by omega, by go_num, HS2.out, HNX.out⟩
            case measure => simp [intOf]; omega
          · have hq : (((bs (c :: x'))[0].toNat : Int) == 35) = false := by assumption
            have hidl : idle (wordsOf (bs l)) = false := by
              rw [HWS.out]
              have h1 : ¬ (((bs (c :: x'))[0].toNat : Int) = 35) := by simpa using hq
              have h2 : ¬ c.toNat = 35 := by have : (bs (c :: x'))[0] = c := rfl; rw [this] at h1; omega
              have h3 : ¬ c = 35 := fun e => h2 (by rw [e]; rfl)
              simp [idle, h3]
            have HID := Lib.hid hidl
            clear hidl
            have harr : Arr Rep.str w2 w2.heap.size (some ⟨A, 0, none⟩) (m + 1) ((c :: x') :: xs) := by
              refine ⟨by rw [List.length_cons, HM.out], fun _ => ⟨A, 0, rfl, (HO.out.1.lt A rfl).2, fun i y hy => ?_⟩⟩
              simp only [Rep.str, Nat.mul_one, Nat.add_zero, Nat.zero_add]
              refine ⟨?_, by have := (HW.out.1 y (List.mem_of_getElem? hy)).2; have := HLS.out; unfold maxLen; omega⟩
              have := HO.out.1.cells (g := A) rfl i (.string (bs y)) (by rw [List.getElem?_map, hy]; rfl)
              simpa [Addr.lit_add] using this
            have hAb : A ≠ b := by have := heap_lt HS.out.rd.rb; omega
            refine (rline_any (H + 1) b v vs g 0 A (m + 1) (m + 1) _ w2 HS2.out.rd HS2.out.libs (by omega) hb1 harr (by omega) (Nat.le_refl _) (by omega) hAb (fun y hy => by have := (HW.out.1 y hy).2; have := HLS.out; omega) HS2.out.ok.fit).mono ?_
            rintro r w3 ⟨rfl, v3, vs3, hrd3, hbl3, hst3⟩
            rw [← HWS.out] at hrd3
            generalize hls : lineStep g (wordsOf (bs l)) 0 = ls at hrd3
            obtain ⟨g3, e3⟩ := ls
            simp only at hrd3
            have HL3 := Lib.hid hls
            clear hls
            have hres3 := (hbl3.block H (by omega)).trans HS2.out.res
            have hlin3 := hst3 _ _ _ HS2.out.lines
            have hb3 : Below H w2 w3 := hbl3.mono (by omega)
            have c4 := hrd3.rb.cell4
            have HR3 := Lib.hid (And.intro hrd3 (And.intro hres3 (And.intro hlin3 hb3)))
            clear hrd3 hbl3 hst3 hres3 hlin3 hb3 d0 d1 d2 d3 z0 hx0
            have d0 : w3.cell? ⟨H, 0, none⟩ = some (.slice none 0 0) := by rw [Lib.cell_of_heap HR3.out.2.1]; rfl
            have d1 : w3.cell? ⟨H, 1, none⟩ = some (.slice none 0 0) := by rw [Lib.cell_of_heap HR3.out.2.1]; rfl
            have d2 : w3.cell? ⟨H, 2, none⟩ = some (.slice none 0 0) := by rw [Lib.cell_of_heap HR3.out.2.1]; rfl
            have d3 : w3.cell? ⟨H, 3, none⟩ = some (.slice none 0 0) := by rw [Lib.cell_of_heap HR3.out.2.1]; rfl
            have z0 : ∀ i, w3.frozen? ⟨H, i, none⟩ = false := fun i => Lib.frozen_of_heap HR3.out.2.1 i
            by_cases he3 : e3 = 0
            · subst he3
              have hnx : parseGo (k + 1) ((linesOf t).drop (k + 1)) g3 = parseSpec t := by
                have h1 : (lineStep g (wordsOf (bs l)) 0).2 = 0 := by rw [HL3.out]
                rw [← HE.out, go_on h4 (by have := HLS.out; omega) HID.out h1, HL3.out]
              have hok : OKG g3 := by
                have h1 : (lineStep g (wordsOf (bs l)) 0).2 = 0 := by rw [HL3.out]
                have := HS2.out.ok.line _ h1
                rwa [HL3.out] at this
              have HNX := Lib.hid hnx
              have HS3 : Hid (PSt w H b lb (linesOf t) v3 vs3 g3 w3) := {
                rd := HR3.out.1
                below := HS2.out.below.trans HR3.out.2.2.2
                res := HR3.out.2.1
                lines := HR3.out.2.2.1
                libs := HS2.out.libs.below HR3.out.2.2.2 HS2.out.ge
                ok := hok
                ge := HS2.out.ge
                gt := HS2.out.gt }
              clear hnx hok
              go_wp2_with fail
              go_roundw
              case rel => exact ⟨k + 1, v3, vs3, g3, by omega, by go_num, HS3.out, HNX.out⟩
              case measure => simp [intOf]; omega
            · have hne : (e3 != 0) = true := by simpa using he3
              have hend : parseSpec t = (noG, e3, (k : Int) + 1) := by
                have h1 : (lineStep g (wordsOf (bs l)) 0).2 ≠ 0 := by rw [HL3.out]; exact he3
                rw [← HE.out, go_bad h4 (by have := HLS.out; omega) HID.out h1, HL3.out]
              have HD := Lib.hid hend
              have HB3 : Hid (Below H w w3) := HS2.out.below.trans HR3.out.2.2.2
              clear hend he3
              go_upto_region 11 with fail
              refine wp_region_N (fun k => decide (k < 8)) (fun W => W.cell? ⟨b, 4, none⟩ = some (.int .i64 e3)) [0, 1, 2, 3, 5, 6] [4] 3 (by kernel_rfl) (by kernel_rfl) rfl (fun d _ _ _ _ h => by cases d <;> exact h) (by kernel_rfl) (by kernel_rfl) c4 ?_
              simp only [List.filterMap_cons, List.getElem?_toArray, List.getElem?_cons_succ, List.getElem?_cons_zero, List.filterMap_nil]
              repeat (quiet_step (fail))
              refine wpQuiet_nil ?_
              refine C_step (v := ?v2) rfl ?h2 ?_
              case h2 =>
                rintro W g0
                go_simp
                rfl
              refine wpQuiet_nil ?_
              refine N_one (k := 7) (by kernel_rfl) rfl rfl ?_
              have hbH : b ≠ H := by omega
              go_simp
              refine ⟨?hS, ?_⟩
              case hS => exact Lib.hid trivial
              refine N_tail 8 2 (by rfl) (fun j hj => by simp; omega) (by kernel_rfl) ?_
              simp only [List.drop_succ_cons, List.drop_zero]
              go_wp2_with fail
              have hwr : IntKind.i64.wrap ((k : Int) + 1) = (k : Int) + 1 := IntWalk.i64_in _ (by omega)
              refine bodyPost_ret (v := .tuple #[.agg #[.slice none 0 0, .slice none 0 0, .slice none 0 0, .slice none 0 0], .int .i64 e3, .int .i64 ((k : Int) + 1)]) (by simp [results, Tryz.results9, go_sem, d0, d1, d2, d3, hwr]) rfl ?_
              rw [HD.out]
              refine ⟨noS, rfl, grAt_no _, ?_⟩
              rw [HH.out]
              exact HB3.out.drew.trans (below_grown (set4 w3.drew H _ _ _ _) (Nat.le_refl _) (by have := heap_lt HR3.out.2.1; show H ≤ w3.heap.size; omega))
    · obtain rfl : k = N := by omega
      have hend : parseSpec t = (g, 0, 0) := by rw [← HQ.out.2, List.drop_of_length_le (by rw [HN.out]; exact Nat.le_refl _), parseGo]
      obtain ⟨vP, vB, vN, vE⟩ := v
      obtain ⟨A1, k1, hv1⟩ := own_slice HQ.out.1.rd.parent
      obtain ⟨A2, k2, hv2⟩ := own_slice HQ.out.1.rd.bound
      obtain ⟨A3, k3, hv3⟩ := own_slice HQ.out.1.rd.nodes
      obtain ⟨A4, k4, hv4⟩ := own_slice HQ.out.1.rd.edges
      simp only at hv1 hv2 hv3 hv4
      subst hv1; subst hv2; subst hv3; subst hv4
      generalize hl1 : g.parent.length = n1 at HQ
      generalize hl2 : g.bound.length = n2 at HQ
      generalize hl3 : g.nodes.length = n3 at HQ
      generalize hl4 : g.edges.length = n4 at HQ
      clear hl1 hl2 hl3 hl4
      have c0 : wr.cell? ⟨b, 0, none⟩ = some (.slice A1 n1 k1) := by rw [Lib.cell_of_heap HQ.out.1.rd.rb]; rfl
      have c1 : wr.cell? ⟨b, 1, none⟩ = some (.slice A2 n2 k2) := by rw [Lib.cell_of_heap HQ.out.1.rd.rb]; rfl
      have c2 : wr.cell? ⟨b, 2, none⟩ = some (.slice A3 n3 k3) := by rw [Lib.cell_of_heap HQ.out.1.rd.rb]; rfl
      have c3 : wr.cell? ⟨b, 3, none⟩ = some (.slice A4 n4 k4) := by rw [Lib.cell_of_heap HQ.out.1.rd.rb]; rfl
      have d0 : wr.cell? ⟨H, 0, none⟩ = some (.slice none 0 0) := by rw [Lib.cell_of_heap HQ.out.1.res]; rfl
      have d1 : wr.cell? ⟨H, 1, none⟩ = some (.slice none 0 0) := by rw [Lib.cell_of_heap HQ.out.1.res]; rfl
      have d2 : wr.cell? ⟨H, 2, none⟩ = some (.slice none 0 0) := by rw [Lib.cell_of_heap HQ.out.1.res]; rfl
      have d3 : wr.cell? ⟨H, 3, none⟩ = some (.slice none 0 0) := by rw [Lib.cell_of_heap HQ.out.1.res]; rfl
      have z0 : ∀ i, wr.frozen? ⟨H, i, none⟩ = false := fun i => Lib.frozen_of_heap HQ.out.1.res i
      have HG := Lib.hid hend
      clear hend
      go_wp2_with fail
      refine bodyPost_ret (v := .tuple #[.agg #[.slice A1 n1 k1, .slice A2 n2 k2, .slice A3 n3 k3, .slice A4 n4 k4], .int .i64 0, .int .i64 0]) (by simp [results, Tryz.results9, go_sem, d0, d1, d2, d3]) rfl ?_
      have hrd := HQ.out.1.rd.side (set4 wr H (.slice A1 n1 k1) (.slice A2 n2 k2) (.slice A3 n3 k3) (.slice A4 n4 k4)) (by omega) (by omega)
      obtain ⟨s, hv, hgr⟩ := hrd.grAt HQ.out.1.ok
      rw [HG.out]
      injection hv with hv1 hv; injection hv with hv2 hv; injection hv with hv3 hv4
      refine ⟨s, by rw [hv1, hv2, hv3, hv4]; rfl, hgr, ?_⟩
      rw [HH.out]
      exact HQ.out.1.below.trans (below_grown (set4 wr H _ _ _ _) (Nat.le_refl _) (by have := heap_lt HQ.out.1.res; omega))

end Go.Proofs.YtigdaaloagecgaaGreatDoor
