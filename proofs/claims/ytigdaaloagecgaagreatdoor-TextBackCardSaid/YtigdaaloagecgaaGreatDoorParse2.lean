/-
  What text.Parse makes of a text that a graph is shown by: the graph. No condition.
-/
import Derived.Test.YtigdaaloagecgaaGreatDoorParse
namespace Go.Proofs.YtigdaaloagecgaaGreatDoor
open Go.RowKit

theorem numOf_itoa {v : Int} (h : I64 v) : numOf (Lib.itoa v) = some v := by
  unfold numOf
  rw [parse_itoa v h.1 h.2]
  simp
theorem numV_itoa {v : Int} (h : I64 v) : numV (Lib.itoa v) = v := by unfold numV; rw [numOf_itoa h]; rfl
theorem i64_of {v : Int} (h : 0 ≤ v ∧ v ≤ 2147483647) : I64 v := ⟨by omega, by omega⟩
theorem clampI_of {v : Int} (h : 0 ≤ v ∧ v ≤ 2147483647) : clampI v = v := by unfold clampI; omega
theorem roomE_of {many most : Int} (h : many < most) : roomE 0 many most = 0 := by unfold roomE; rw [if_neg (by omega)]
theorem placeE_of {ns : List (List UInt8)} {x : List UInt8} (h : placeOf ns x ≠ 0) : placeE ns 0 x = 0 := by unfold placeE; rw [if_neg h]
theorem numE_of {x : List UInt8} {v : Int} (h : numOf x = some v) : numE 0 x = 0 := by unfold numE; rw [h]; simp
theorem smallE_of {l : List Int} (h : ∀ v ∈ l, I64 v) : smallE 0 (l.map Lib.itoa) = 0 := by
  unfold smallE
  rw [if_neg]
  rw [List.any_eq_true]
  rintro ⟨x, hx, hn⟩
  obtain ⟨v, hv, rfl⟩ := List.mem_map.1 hx
  simp [noNum, numOf_itoa (h v hv)] at hn
theorem fitsE_of {l : List Int} (h : ∀ v ∈ l, 0 ≤ v ∧ v ≤ 2147483647) : fitsE 0 (l.map Lib.itoa) = 0 := by
  unfold fitsE
  rw [if_neg]
  rw [List.any_eq_true]
  rintro ⟨x, hx, hn⟩
  obtain ⟨y, hy, rfl⟩ := List.mem_map.1 hx
  obtain ⟨v, hv, rfl⟩ := List.mem_map.1 hy
  rw [numV_itoa (i64_of (h v hv)), clampI_of (h v hv), badB_not.2 (h v hv)] at hn
  cases hn

theorem kinds_place : ∀ k : Fin 15, placeOf kindsL (nmOf kindsL ((k.val : Int) + 1)) = (k.val : Int) + 1 := by decide +kernel
theorem codes_place : ∀ k : Fin 16, placeOf codesL (nmOf codesL ((k.val : Int) + 1)) = (k.val : Int) + 1 := by decide +kernel
theorem kind_place {k : Int} (h : 1 ≤ k ∧ k ≤ 15) : placeOf kindsL (nmOf kindsL k) = k := by
  have := kinds_place ⟨(k - 1).toNat, by omega⟩
  simp only at this
  rw [show (((k - 1).toNat : Nat) : Int) + 1 = k by omega] at this
  exact this
theorem code_place {k : Int} (h : 1 ≤ k ∧ k ≤ 16) : placeOf codesL (nmOf codesL k) = k := by
  have := codes_place ⟨(k - 1).toNat, by omega⟩
  simp only at this
  rw [show (((k - 1).toNat : Nat) : Int) + 1 = k by omega] at this
  exact this
theorem way_place (b : Bool) : placeOf wayL (if b then wKey else wPipe) = if b then 2 else 1 := by cases b <;> decide +kernel

def goodB (w : List UInt8) : Bool := !w.isEmpty && w.all wordy
theorem goodW_of {w : List UInt8} (h : goodB w = true) : goodW w := by
  simp only [goodB, Bool.and_eq_true, Bool.not_eq_true', List.all_eq_true] at h
  exact ⟨fun e => by rw [e] at h; simp at h, h.2⟩
theorem kinds_good : kindsL.all goodB = true := by decide +kernel
theorem codes_good : codesL.all goodB = true := by decide +kernel
theorem nm_good {ns : List (List UInt8)} (h : ns.all goodB = true) {k : Int} (hk : 1 ≤ k ∧ k ≤ ns.length) : goodW (nmOf ns k) := by
  unfold nmOf
  rw [if_pos hk]
  have hlt : (k - 1).toNat < ns.length := by omega
  rw [List.getD_eq_getElem?_getD, List.getElem?_eq_getElem hlt]
  exact goodW_of (List.all_eq_true.1 h _ (List.getElem_mem hlt))
theorem itoa_good (v : Int) : goodW (Lib.itoa v) := ⟨itoa_ne v, itoa_wordy v⟩

/-- a line without its end -/
def lnOf (xs : List (List UInt8)) : List UInt8 := Lib.join xs [32]
theorem lnOf_cons (w : List UInt8) (ws : List (List UInt8)) : lnOf (w :: ws) = w ++ ws.flatMap fun x => 32 :: x := by
  rw [lnOf, Lib.join_cons]
  congr 1
theorem words_line (w : List UInt8) (ws : List (List UInt8)) (hw : goodW w) (hws : ∀ x ∈ ws, goodW x) : wordsOf (bs (lnOf (w :: ws))) = w :: ws :=
  wordsOf_join _ w ws hw hws (by rw [bs_list, lnOf_cons])
theorem lineOf_ln (xs : List (List UInt8)) : lineOf xs = lnOf xs ++ [10] := rfl
theorem ten_not {w : List UInt8} (h : goodW w) : (10 : UInt8) ∉ w := fun hm => by have := h.2 _ hm; revert this; decide
theorem ten_line (w : List UInt8) (ws : List (List UInt8)) (hw : goodW w) (hws : ∀ x ∈ ws, goodW x) : (10 : UInt8) ∉ lnOf (w :: ws) := by
  rw [lnOf_cons, List.mem_append]
  rintro (h | h)
  · exact ten_not hw h
  · obtain ⟨x, hx, hm⟩ := List.mem_flatMap.1 h
    rcases List.mem_cons.1 hm with e | e
    · exact absurd e (by decide)
    · exact ten_not (hws x hx) e

def okStep (g : Gr) (l : List UInt8) : Option Gr :=
  if l.length ≤ 256 ∧ idle (wordsOf (bs l)) = false ∧ (lineStep g (wordsOf (bs l)) 0).2 = 0 then some (lineStep g (wordsOf (bs l)) 0).1 else none
def okRun : Gr → List (List UInt8) → Option Gr
  | g, [] => some g
  | g, l :: r => (okStep g l).bind fun h => okRun h r
theorem okRun_append : ∀ (a b : List (List UInt8)) (g g1 g2 : Gr), okRun g a = some g1 → okRun g1 b = some g2 → okRun g (a ++ b) = some g2
  | [], b, g, g1, g2, h, k => by injection h with h; subst h; exact k
  | l :: a, b, g, g1, g2, h, k => by
    rw [List.cons_append, okRun]
    rw [okRun] at h
    cases hs : okStep g l with
    | none => rw [hs] at h; cases h
    | some g' =>
      rw [hs] at h
      exact okRun_append a b g' g1 g2 h k
theorem parseGo_run : ∀ (ls r : List (List UInt8)) (i : Nat) (g g' : Gr), okRun g ls = some g' → i + ls.length ≤ 4096 → parseGo i (ls ++ r) g = parseGo (i + ls.length) r g'
  | [], r, i, g, g', h, _ => by injection h with h; subst h; rfl
  | l :: ls, r, i, g, g', h, hi => by
    rw [okRun] at h
    rw [List.length_cons] at hi
    cases hs : okStep g l with
    | none => rw [hs] at h; cases h
    | some g1 =>
      rw [hs] at h
      unfold okStep at hs
      split at hs
      · next hc =>
        obtain ⟨c1, c2, c3⟩ := hc
        injection hs with hs
        rw [List.cons_append, parseGo, if_neg (by omega), c2, if_neg (by simp), if_pos c3, hs, parseGo_run ls r (i + 1) g1 g' h (by omega), List.length_cons, show i + 1 + ls.length = i + (ls.length + 1) by omega]
      · cases hs

/-- the lines that a graph is shown by -/
def scopeL (x : Int × Int) : List UInt8 := lnOf [wScope, Lib.itoa x.1, Lib.itoa x.2]
def insL (y : Ins) : List UInt8 := lnOf [wIns, nmOf codesL y.op, Lib.itoa y.n]
def nodeL (x : Nd) : List (List UInt8) := lnOf [wNode, nmOf kindsL x.kind, Lib.itoa x.scope, Lib.itoa x.arg] :: x.prog.map insL
def edgeL (x : Ed) : List UInt8 := lnOf [wEdge, Lib.itoa x.frm, Lib.itoa x.dst, Lib.itoa x.port, if x.ex then wKey else wPipe]
def showLines (g : Gr) : List (List UInt8) := (scopesL g).map scopeL ++ g.nodes.flatMap nodeL ++ g.edges.map edgeL
theorem showText_lines (g : Gr) : showText g = (showLines g).flatMap fun l => l ++ [10] := by
  unfold showText showLines
  rw [List.flatMap_append, List.flatMap_append, List.flatMap_map, List.flatMap_map, List.flatMap_assoc]
  congr 2
  have : nodeT = fun x => (nodeL x).flatMap fun l => l ++ [10] := funext fun x => by
    rw [nodeT, nodeL, List.flatMap_cons, List.flatMap_map]
    rfl
  rw [this]

theorem step_scope {g : Gr} {p q : Int} (hp : 0 ≤ p ∧ p ≤ 2147483647) (hq : 0 ≤ q ∧ q ≤ 2147483647) (hn : g.parent.length < 8) : okStep g (scopeL (p, q)) = some { g with parent := g.parent ++ [p], bound := g.bound ++ [q] } := by
  have hlen : (scopeL (p, q)).length ≤ 256 := by have := scope_len (i64_of hp) (i64_of hq); rw [lineOf_ln, List.length_append] at this; unfold scopeL; simp at this ⊢; omega
  have hw : wordsOf (bs (scopeL (p, q))) = [wScope, Lib.itoa p, Lib.itoa q] := words_line _ _ (goodW_of (by decide)) (fun x hx => by simp at hx; rcases hx with rfl | rfl <;> exact itoa_good _)
  have he : scopeE g (Lib.itoa p) (Lib.itoa q) 0 = 0 := by
    unfold scopeE
    have h1 := smallE_of (l := [p, q]) (by simp; exact ⟨i64_of hp, i64_of hq⟩)
    have h2 := fitsE_of (l := [p, q]) (by simp; omega)
    simp only [List.map_cons, List.map_nil] at h1 h2
    rw [h1, h2, roomE_of (by omega)]
  unfold okStep
  rw [hw]
  simp only [lineStep, if_true, he]
  rw [if_pos ⟨hlen, rfl, trivial⟩, numV_itoa (i64_of hp), numV_itoa (i64_of hq), clampI_of hp, clampI_of hq]
theorem step_edge {g : Gr} {x : Ed} (h1 : 0 ≤ x.frm ∧ x.frm ≤ 2147483647) (h2 : 0 ≤ x.dst ∧ x.dst ≤ 2147483647) (h3 : 0 ≤ x.port ∧ x.port ≤ 2147483647) (hn : g.edges.length < 64) : okStep g (edgeL x) = some { g with edges := g.edges ++ [x] } := by
  have hwl : (if x.ex then wKey else wPipe).length ≤ 4 := by cases x.ex <;> decide
  have hwg : goodW (if x.ex then wKey else wPipe) := by cases x.ex <;> exact goodW_of (by decide)
  have hlen : (edgeL x).length ≤ 256 := by have := edge_len (i64_of h1) (i64_of h2) (i64_of h3) _ hwl; rw [lineOf_ln, List.length_append] at this; unfold edgeL; simp at this ⊢; omega
  have hw : wordsOf (bs (edgeL x)) = [wEdge, Lib.itoa x.frm, Lib.itoa x.dst, Lib.itoa x.port, if x.ex then wKey else wPipe] := words_line _ _ (goodW_of (by decide)) (fun y hy => by
    simp only [List.mem_cons, List.not_mem_nil, or_false] at hy
    rcases hy with rfl | rfl | rfl | rfl
    · exact itoa_good _
    · exact itoa_good _
    · exact itoa_good _
    · exact hwg)
  have he : edgeE g (Lib.itoa x.frm) (Lib.itoa x.dst) (Lib.itoa x.port) (if x.ex then wKey else wPipe) 0 = 0 := by
    unfold edgeE
    have e1 := smallE_of (l := [x.frm, x.dst, x.port]) (by simp; exact ⟨i64_of h1, i64_of h2, i64_of h3⟩)
    have e2 := fitsE_of (l := [x.frm, x.dst, x.port]) (by simp; omega)
    simp only [List.map_cons, List.map_nil] at e1 e2
    rw [e1, placeE_of (by rw [way_place]; cases x.ex <;> simp), e2, roomE_of (by omega)]
  unfold okStep
  rw [hw]
  simp only [lineStep, if_true, he]
  rw [if_pos ⟨hlen, rfl, trivial⟩]
  have : edgeOf (Lib.itoa x.frm) (Lib.itoa x.dst) (Lib.itoa x.port) (if x.ex then wKey else wPipe) = x := by
    unfold edgeOf
    rw [numV_itoa (i64_of h1), numV_itoa (i64_of h2), numV_itoa (i64_of h3), clampI_of h1, clampI_of h2, clampI_of h3, way_place]
    obtain ⟨f, d, p, ex⟩ := x
    cases ex <;> rfl
  rw [this]
theorem step_node {g : Gr} {x : Nd} (h1 : 1 ≤ x.kind ∧ x.kind ≤ 15) (h2 : 0 ≤ x.scope ∧ x.scope ≤ 2147483647) (h3 : I64 x.arg) (hn : g.nodes.length < 32) : okStep g (lnOf [wNode, nmOf kindsL x.kind, Lib.itoa x.scope, Lib.itoa x.arg]) = some { g with nodes := g.nodes ++ [{ x with prog := [] }] } := by
  have hlen : (lnOf [wNode, nmOf kindsL x.kind, Lib.itoa x.scope, Lib.itoa x.arg]).length ≤ 256 := by have := nodeLine_len (k := x.kind) (i64_of h2) h3; rw [lineOf_ln, List.length_append] at this; simp at this ⊢; omega
  have hw : wordsOf (bs (lnOf [wNode, nmOf kindsL x.kind, Lib.itoa x.scope, Lib.itoa x.arg])) = [wNode, nmOf kindsL x.kind, Lib.itoa x.scope, Lib.itoa x.arg] := words_line _ _ (goodW_of (by decide)) (fun y hy => by
    simp only [List.mem_cons, List.not_mem_nil, or_false] at hy
    rcases hy with rfl | rfl | rfl
    · exact nm_good kinds_good (by rw [kindsL_len]; exact h1)
    · exact itoa_good _
    · exact itoa_good _)
  have he : nodeE g (nmOf kindsL x.kind) (Lib.itoa x.scope) (Lib.itoa x.arg) 0 = 0 := by
    unfold nodeE
    have e1 := smallE_of (l := [x.scope]) (by simp; exact i64_of h2)
    have e2 := fitsE_of (l := [x.scope]) (by simp; omega)
    simp only [List.map_cons, List.map_nil] at e1 e2
    rw [placeE_of (by rw [kind_place h1]; omega), e1, numE_of (numOf_itoa h3), e2, roomE_of (by omega)]
  unfold okStep
  rw [hw]
  simp only [lineStep, if_true, he]
  rw [if_pos ⟨hlen, rfl, trivial⟩]
  have : nodeOf (nmOf kindsL x.kind) (Lib.itoa x.scope) (Lib.itoa x.arg) = { x with prog := [] } := by
    unfold nodeOf
    rw [numV_itoa (i64_of h2), numV_itoa h3, clampI_of h2, kind_place h1]
  rw [this]
theorem addIns_snoc (l : List Nd) (x : Nd) (y : Ins) : addIns (l ++ [x]) y = l ++ [{ x with prog := x.prog ++ [y] }] := by
  obtain ⟨l', z, e1, e2, _⟩ := addIns_eq (l ++ [x]) (by simp) y
  obtain ⟨h1, h2⟩ := List.append_inj' e1 rfl
  injection h2 with h2
  subst h1; subst h2
  exact e2
theorem lastLen_snoc (l : List Nd) (x : Nd) : lastLen (l ++ [x]) = x.prog.length := by
  obtain ⟨l', z, e1, _, e3⟩ := addIns_eq (l ++ [x]) (by simp) ⟨0, 0⟩
  obtain ⟨h1, h2⟩ := List.append_inj' e1 rfl
  injection h2 with h2
  subst h1; subst h2
  exact e3
theorem step_ins {g : Gr} {N : List Nd} {x : Nd} {y : Ins} (hg : g.nodes = N ++ [x]) (h1 : 1 ≤ y.op ∧ y.op ≤ 16) (h2 : I64 y.n) (hn : x.prog.length < 64) : okStep g (insL y) = some { g with nodes := N ++ [{ x with prog := x.prog ++ [y] }] } := by
  have hlen : (insL y).length ≤ 256 := by have := ins_len (k := y.op) h2; rw [lineOf_ln, List.length_append] at this; unfold insL; simp at this ⊢; omega
  have hw : wordsOf (bs (insL y)) = [wIns, nmOf codesL y.op, Lib.itoa y.n] := words_line _ _ (goodW_of (by decide)) (fun z hz => by
    simp only [List.mem_cons, List.not_mem_nil, or_false] at hz
    rcases hz with rfl | rfl
    · exact nm_good codes_good (by rw [codesL_len]; exact h1)
    · exact itoa_good _)
  have he : insE g (nmOf codesL y.op) (Lib.itoa y.n) 0 = 0 := by
    unfold insE
    rw [if_neg (by rw [hg]; simp), placeE_of (by rw [code_place h1]; omega), numE_of (numOf_itoa h2), hg, lastLen_snoc, roomE_of (by omega)]
  unfold okStep
  rw [hw]
  have hne : ¬ wIns = wScope := by decide
  simp only [lineStep, if_true, if_neg hne, he]
  rw [if_pos ⟨hlen, rfl, trivial⟩, hg, addIns_snoc]
  have : insOf (nmOf codesL y.op) (Lib.itoa y.n) = y := by
    unfold insOf
    rw [numV_itoa h2, code_place h1]
  rw [this]

theorem run_scopes : ∀ (ps qs : List Int) (g : Gr), ps.length = qs.length → (∀ x ∈ ps, 0 ≤ x ∧ x ≤ 2147483647) → (∀ x ∈ qs, 0 ≤ x ∧ x ≤ 2147483647) → g.parent.length + ps.length ≤ 8 →
    okRun g ((ps.zip qs).map scopeL) = some { g with parent := g.parent ++ ps, bound := g.bound ++ qs }
  | [], [], g, _, _, _, _ => by simp [okRun]
  | p :: ps, q :: qs, g, hl, hp, hq, hn => by
    rw [List.length_cons] at hn
    rw [List.zip_cons_cons, List.map_cons, okRun, step_scope (hp p (List.mem_cons_self ..)) (hq q (List.mem_cons_self ..)) (by omega), Option.bind_some,
      run_scopes ps qs _ (by simpa using hl) (fun x hx => hp x (List.mem_cons_of_mem _ hx)) (fun x hx => hq x (List.mem_cons_of_mem _ hx)) (by simp; omega)]
    simp
  | [], _ :: _, _, hl, _, _, _ => by simp at hl
  | _ :: _, [], _, hl, _, _, _ => by simp at hl
theorem run_edges : ∀ (es : List Ed) (g : Gr), (∀ x ∈ es, (0 ≤ x.frm ∧ x.frm ≤ 2147483647) ∧ (0 ≤ x.dst ∧ x.dst ≤ 2147483647) ∧ (0 ≤ x.port ∧ x.port ≤ 2147483647)) → g.edges.length + es.length ≤ 64 →
    okRun g (es.map edgeL) = some { g with edges := g.edges ++ es }
  | [], g, _, _ => by simp [okRun]
  | x :: es, g, h, hn => by
    rw [List.length_cons] at hn
    obtain ⟨h1, h2, h3⟩ := h x (List.mem_cons_self ..)
    rw [List.map_cons, okRun, step_edge h1 h2 h3 (by omega), Option.bind_some, run_edges es _ (fun x hx => h x (List.mem_cons_of_mem _ hx)) (by simp; omega)]
    simp
theorem run_prog : ∀ (ys : List Ins) (g : Gr) (N : List Nd) (x : Nd), g.nodes = N ++ [x] → (∀ y ∈ ys, (1 ≤ y.op ∧ y.op ≤ 16) ∧ I64 y.n) → x.prog.length + ys.length ≤ 64 →
    okRun g (ys.map insL) = some { g with nodes := N ++ [{ x with prog := x.prog ++ ys }] }
  | [], g, N, x, hg, _, _ => by simp [okRun, ← hg]
  | y :: ys, g, N, x, hg, h, hn => by
    rw [List.length_cons] at hn
    obtain ⟨h1, h2⟩ := h y (List.mem_cons_self ..)
    rw [List.map_cons, okRun, step_ins hg h1 h2 (by omega), Option.bind_some, run_prog ys _ N { x with prog := x.prog ++ [y] } rfl (fun z hz => h z (List.mem_cons_of_mem _ hz)) (by simp; omega)]
    simp
theorem run_nodes : ∀ (xs : List Nd) (g : Gr), (∀ x ∈ xs, (1 ≤ x.kind ∧ x.kind ≤ 15) ∧ (0 ≤ x.scope ∧ x.scope ≤ 2147483647) ∧ I64 x.arg ∧ x.prog.length ≤ 64 ∧ ∀ y ∈ x.prog, (1 ≤ y.op ∧ y.op ≤ 16) ∧ I64 y.n) → g.nodes.length + xs.length ≤ 32 →
    okRun g (xs.flatMap nodeL) = some { g with nodes := g.nodes ++ xs }
  | [], g, _, _ => by simp [okRun]
  | x :: xs, g, h, hn => by
    rw [List.length_cons] at hn
    obtain ⟨h1, h2, h3, h4, h5⟩ := h x (List.mem_cons_self ..)
    rw [List.flatMap_cons]
    have hr := run_nodes xs { g with nodes := g.nodes ++ [x] } (fun z hz => h z (List.mem_cons_of_mem _ hz)) (by simp; omega)
    have hq := run_prog x.prog { g with nodes := g.nodes ++ [{ x with prog := [] }] } g.nodes { x with prog := [] } rfl h5 (by simpa using h4)
    refine okRun_append _ _ _ { g with nodes := g.nodes ++ [x] } _ ?_ (by simpa using hr)
    rw [nodeL, okRun, step_node h1 h2 h3 (by omega), Option.bind_some]
    simpa using hq

theorem lines_ten {g : Gr} (h : OKG g) : ∀ l ∈ showLines g, (10 : UInt8) ∉ l := by
  intro l hl
  unfold showLines at hl
  rcases List.mem_append.1 hl with hl | hl
  · rcases List.mem_append.1 hl with hl | hl
    · obtain ⟨x, _, rfl⟩ := List.mem_map.1 hl
      exact ten_line _ _ (goodW_of (by decide)) (fun y hy => by simp at hy; rcases hy with rfl | rfl <;> exact itoa_good _)
    · obtain ⟨x, hx, hm⟩ := List.mem_flatMap.1 hl
      rcases List.mem_cons.1 hm with rfl | hm
      · exact ten_line _ _ (goodW_of (by decide)) (fun y hy => by
          simp only [List.mem_cons, List.not_mem_nil, or_false] at hy
          rcases hy with rfl | rfl | rfl
          · exact nm_good kinds_good (by rw [kindsL_len]; exact h.kinds x hx)
          · exact itoa_good _
          · exact itoa_good _)
      · obtain ⟨z, hz, rfl⟩ := List.mem_map.1 hm
        exact ten_line _ _ (goodW_of (by decide)) (fun y hy => by
          simp only [List.mem_cons, List.not_mem_nil, or_false] at hy
          rcases hy with rfl | rfl
          · exact nm_good codes_good (by rw [codesL_len]; exact h.ops x hx z hz)
          · exact itoa_good _)
  · obtain ⟨x, _, rfl⟩ := List.mem_map.1 hl
    exact ten_line _ _ (goodW_of (by decide)) (fun y hy => by
      simp only [List.mem_cons, List.not_mem_nil, or_false] at hy
      rcases hy with rfl | rfl | rfl | rfl
      · exact itoa_good _
      · exact itoa_good _
      · exact itoa_good _
      · cases x.ex <;> exact goodW_of (by decide))
theorem nodes_len : ∀ (xs : List Nd), (∀ x ∈ xs, x.prog.length ≤ 64) → (xs.flatMap nodeL).length ≤ xs.length * 65
  | [], _ => by simp
  | x :: xs, h => by
    have h1 := h x (List.mem_cons_self ..)
    have h2 := nodes_len xs (fun z hz => h z (List.mem_cons_of_mem _ hz))
    rw [List.flatMap_cons, List.length_append, List.length_cons, nodeL, List.length_cons, List.length_map]
    omega
theorem lines_len {g : Gr} (h : OKG g) : (showLines g).length ≤ 3000 := by
  have h1 := nodes_len g.nodes (fun x hx => (h.fit.node x hx).2.2.1)
  have h2 := h.fit.nodes
  have h3 := h.fit.edges
  have h4 := h.fit.hi
  unfold showLines scopesL
  simp only [List.length_append, List.length_map, List.length_zip, List.length_tail]
  omega
/-- a graph is read from its lines as it was shown -/
theorem parse_show {g : Gr} (h : OKG g) : parseSpec (showText g) = (g, 0, 0) := by
  obtain ⟨p, ps, hp⟩ : ∃ p ps, g.parent = p :: ps := List.exists_cons_of_length_pos h.fit.lo
  obtain ⟨q, qs, hq⟩ : ∃ q qs, g.bound = q :: qs := List.exists_cons_of_length_pos (by have := h.fit.lo; have := h.fit.same; omega)
  have hp0 : p = -1 := by have := h.fit.p0; rw [hp] at this; simpa using this
  have hq0 : q = 0 := by have := h.fit.b0; rw [hq] at this; simpa using this
  subst hp0; subst hq0
  have hsame := h.fit.same
  have hhi := h.fit.hi
  have hbs := h.fit.bounds
  have hps := h.fit.parents
  rw [hp, hq] at hsame
  rw [hp] at hhi hps
  rw [hq] at hbs
  simp only [List.length_cons] at hsame hhi
  have r1 : okRun startG ((scopesL g).map scopeL) = some ⟨g.parent, g.bound, [], []⟩ := by
    have e : scopesL g = ps.zip qs := by unfold scopesL; rw [hp, hq]; rfl
    rw [e, run_scopes ps qs startG (by omega) hps (fun x hx => hbs x (List.mem_cons_of_mem _ hx)) (by simp [startG]; omega), hp, hq]
    rfl
  have r2 : okRun ⟨g.parent, g.bound, [], []⟩ (g.nodes.flatMap nodeL) = some ⟨g.parent, g.bound, g.nodes, []⟩ := by
    rw [run_nodes g.nodes _ (fun x hx => by
      obtain ⟨_, c2, c3, _⟩ := h.fit.node x hx
      exact ⟨h.kinds x hx, c2, h.args x hx, c3, fun y hy => ⟨h.ops x hx y hy, h.ns x hx y hy⟩⟩) (by simpa using h.fit.nodes)]
    simp
  have r3 : okRun ⟨g.parent, g.bound, g.nodes, []⟩ (g.edges.map edgeL) = some g := by
    rw [run_edges g.edges _ h.fit.edge (by simpa using h.fit.edges)]
    simp
  have hrun : okRun startG (showLines g) = some g := okRun_append _ _ _ _ _ (okRun_append _ _ _ _ _ r1 r2) r3
  have hcount : Lib.countB (bs (showText g)) ⟨#[10]⟩ = (showLines g).length := by
    show Lib.count (showText g) [10] = _
    rw [Lib.count_one, showText_lines, count_lines _ (lines_ten h)]
  have hlines : linesOf (showText g) = showLines g ++ [[]] := by
    unfold linesOf
    rw [hcount, Lib.splitB_data]
    show Lib.splitK [10] 0 _ (showText g) = _
    rw [showText_lines, split_lines _ (lines_ten h)]
  have hlen := lines_len h
  unfold parseSpec
  rw [hlines, parseGo_run (showLines g) [[]] 0 startG g hrun (by omega), parseGo, if_neg (by simp; omega)]
  have : idle (wordsOf (bs [])) = true := by decide
  rw [if_pos this, parseGo]

end Go.Proofs.YtigdaaloagecgaaGreatDoor
