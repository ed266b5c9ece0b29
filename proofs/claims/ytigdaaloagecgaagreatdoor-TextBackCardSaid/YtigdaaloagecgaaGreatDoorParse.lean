/-
  What text.Parse makes of a text, as a plain function; what it makes of a text that a graph is shown by; what it makes can be shown. No condition.
-/
import Derived.Test.YtigdaaloagecgaaGreatDoorReader3
import Derived.Test.YtigdaaloagecgaaGreatDoorShow
import Derived.Test.YtigdaaloagecgaaGreatDoorWords
namespace Go.Proofs.YtigdaaloagecgaaGreatDoor
open Go.RowKit

def wayL : List (List UInt8) := [wPipe, wKey]
def fitsE (e : Int) (l : List (List UInt8)) : Int := if (l.map fun x => clampI (numV x)).any badB = true then orE e 2 else e
def numE (e : Int) (x : List UInt8) : Int := if numOf x = none then orE e 4 else e
def placeE (ns : List (List UInt8)) (e : Int) (x : List UInt8) : Int := if placeOf ns x = 0 then orE e 4 else e
def roomE (e : Int) (many most : Int) : Int := if most ≤ many then orE e 11 else e

/-- the error that a line leaves, and what it adds -/
def edgeE (g : Gr) (x0 x1 x2 x3 : List UInt8) (e : Int) : Int := roomE (fitsE (placeE wayL (smallE e [x0, x1, x2]) x3) [x0, x1, x2]) g.edges.length 64
def edgeOf (x0 x1 x2 x3 : List UInt8) : Ed := ⟨clampI (numV x0), clampI (numV x1), clampI (numV x2), placeOf wayL x3 == 2⟩
def scopeE (g : Gr) (x0 x1 : List UInt8) (e : Int) : Int := roomE (fitsE (smallE e [x0, x1]) [x0, x1]) g.parent.length 8
def nodeE (g : Gr) (x0 x1 x2 : List UInt8) (e : Int) : Int := roomE (fitsE (numE (smallE (placeE kindsL e x0) [x1]) x2) [x1]) g.nodes.length 32
def nodeOf (x0 x1 x2 : List UInt8) : Nd := ⟨placeOf kindsL x0, clampI (numV x1), numV x2, []⟩
def insOf (x0 x1 : List UInt8) : Ins := ⟨placeOf codesL x0, numV x1⟩
/-- one more instruction of the last node -/
def addIns : List Nd → Ins → List Nd
  | [], _ => []
  | [x], y => [{ x with prog := x.prog ++ [y] }]
  | x :: z :: l, y => x :: addIns (z :: l) y
def lastLen : List Nd → Nat
  | [] => 0
  | [x] => x.prog.length
  | _ :: z :: l => lastLen (z :: l)
def insE (g : Gr) (x0 x1 : List UInt8) (e : Int) : Int :=
  if g.nodes = [] then orE (numE (placeE codesL e x0) x1) 4 else roomE (numE (placeE codesL e x0) x1) (lastLen g.nodes) 64
/-- text.reader.line -/
def lineStep (g : Gr) (ws : List (List UInt8)) (e : Int) : Gr × Int :=
  match ws with
  | [a, x0, x1] => if a = wScope then ({ g with parent := g.parent ++ [clampI (numV x0)], bound := g.bound ++ [clampI (numV x1)] }, scopeE g x0 x1 e)
      else if a = wIns then ({ g with nodes := addIns g.nodes (insOf x0 x1) }, insE g x0 x1 e) else (g, orE e 4)
  | [a, x0, x1, x2] => if a = wNode then ({ g with nodes := g.nodes ++ [nodeOf x0 x1 x2] }, nodeE g x0 x1 x2 e) else (g, orE e 4)
  | [a, x0, x1, x2, x3] => if a = wEdge then ({ g with edges := g.edges ++ [edgeOf x0 x1 x2 x3] }, edgeE g x0 x1 x2 x3 e) else (g, orE e 4)
  | _ => (g, orE e 4)
/-- nothing, or a note -/
def idle (ws : List (List UInt8)) : Bool := match ws with
  | [] => true
  | x :: _ => x.head? == some 35
def noG : Gr := ⟨[], [], [], []⟩
def startG : Gr := ⟨[-1], [0], [], []⟩
/-- the lines from one on -/
def parseGo : Nat → List (List UInt8) → Gr → Gr × Int × Int
  | _, [], g => (g, 0, 0)
  | i, l :: r, g =>
    if 4096 ≤ i ∨ 256 < l.length then (noG, 11, i + 1)
    else if idle (wordsOf (bs l)) = true then parseGo (i + 1) r g
    else if (lineStep g (wordsOf (bs l)) 0).2 = 0 then parseGo (i + 1) r (lineStep g (wordsOf (bs l)) 0).1
    else (noG, (lineStep g (wordsOf (bs l)) 0).2, i + 1)
/-- the lines of a text -/
def linesOf (t : List UInt8) : List (List UInt8) := (Lib.splitB ⟨#[10]⟩ 0 (Lib.countB (bs t) ⟨#[10]⟩) (bs t)).map (·.data.toList)
/-- text.Parse -/
def parseSpec (t : List UInt8) : Gr × Int × Int := parseGo 0 (linesOf t) startG

/-! ### what is read can be shown -/
/-- a graph that can be shown -/
structure OKG (g : Gr) : Prop where
  fit : FitG g
  kinds : ∀ x ∈ g.nodes, 1 ≤ x.kind ∧ x.kind ≤ 15
  ops : ∀ x ∈ g.nodes, ∀ y ∈ x.prog, 1 ≤ y.op ∧ y.op ≤ 16
  args : ∀ x ∈ g.nodes, I64 x.arg
  ns : ∀ x ∈ g.nodes, ∀ y ∈ x.prog, I64 y.n

theorem orE_zero {e e2 : Int} (h : orE e e2 = 0) (h2 : e2 ≠ 0) : False := by
  unfold orE at h
  split at h
  · exact h2 h
  · next hn => exact hn h
theorem roomE_zero {e many most : Int} (h : roomE e many most = 0) : e = 0 ∧ many < most := by
  unfold roomE at h
  split at h
  · exact (orE_zero h (by decide)).elim
  · exact ⟨h, by omega⟩
theorem placeE_zero {ns : List (List UInt8)} {e : Int} {x : List UInt8} (h : placeE ns e x = 0) : e = 0 ∧ 1 ≤ placeOf ns x ∧ placeOf ns x ≤ ns.length := by
  unfold placeE at h
  split at h
  · exact (orE_zero h (by decide)).elim
  · next hn =>
    have h1 := idxOfS_ge (ns.map bs) (bs x)
    have h2 := idxOfS_le (ns.map bs) (bs x)
    rw [List.length_map] at h2
    unfold placeOf at hn ⊢
    exact ⟨h, by omega, by omega⟩
theorem numE_zero {e : Int} {x : List UInt8} (h : numE e x = 0) : e = 0 ∧ numOf x ≠ none := by
  unfold numE at h
  split at h
  · exact (orE_zero h (by decide)).elim
  · next hn => exact ⟨h, hn⟩
theorem smallE_zero {e : Int} {l : List (List UInt8)} (h : smallE e l = 0) : e = 0 ∧ ∀ x ∈ l, numOf x ≠ none := by
  unfold smallE at h
  split at h
  · exact (orE_zero h (by decide)).elim
  · next hn =>
    refine ⟨h, fun x hx he => hn ?_⟩
    rw [List.any_eq_true]
    exact ⟨x, hx, by simp [noNum, he]⟩
theorem fitsE_zero {e : Int} {l : List (List UInt8)} (h : fitsE e l = 0) : e = 0 ∧ ∀ x ∈ l, 0 ≤ clampI (numV x) ∧ clampI (numV x) ≤ 2147483647 := by
  unfold fitsE at h
  split at h
  · exact (orE_zero h (by decide)).elim
  · next hn =>
    refine ⟨h, fun x hx => badB_not.1 ?_⟩
    cases hb : badB (clampI (numV x)) with
    | false => rfl
    | true => exact (hn (List.any_eq_true.2 ⟨_, List.mem_map.2 ⟨x, hx, rfl⟩, hb⟩)).elim
theorem numV_i64 (x : List UInt8) : I64 (numV x) := by
  unfold numV
  cases h : numOf x with
  | none => exact ⟨by simp, by simp⟩
  | some v => exact numOf_i64 h

theorem addIns_eq (l : List Nd) (h : l ≠ []) (y : Ins) : ∃ l' x, l = l' ++ [x] ∧ addIns l y = l' ++ [{ x with prog := x.prog ++ [y] }] ∧ lastLen l = x.prog.length := by
  induction l with
  | nil => exact absurd rfl h
  | cons z l ih =>
    cases l with
    | nil => exact ⟨[], z, rfl, rfl, rfl⟩
    | cons u l =>
      obtain ⟨l', x, h1, h2, h3⟩ := ih (by simp)
      exact ⟨z :: l', x, by rw [h1]; rfl, by rw [addIns, h2]; rfl, by rw [lastLen, h3]⟩

theorem startG_ok : OKG startG where
  fit := ⟨by decide, by decide, by decide, by decide, by decide, fun x hx => by simp [startG] at hx, fun x hx => by simp [startG] at hx; subst hx; decide, by decide, by decide, fun x hx => by simp [startG] at hx, fun x hx => by simp [startG] at hx⟩
  kinds := fun x hx => by simp [startG] at hx
  ops := fun x hx => by simp [startG] at hx
  args := fun x hx => by simp [startG] at hx
  ns := fun x hx => by simp [startG] at hx

theorem OKG.scope {g : Gr} {x0 x1 : List UInt8} (h : OKG g) (he : scopeE g x0 x1 0 = 0) : OKG { g with parent := g.parent ++ [clampI (numV x0)], bound := g.bound ++ [clampI (numV x1)] } := by
  obtain ⟨he, hr⟩ := roomE_zero he
  obtain ⟨_, hf⟩ := fitsE_zero he
  have f0 := hf x0 (by simp)
  have f1 := hf x1 (by simp)
  obtain ⟨⟨a1, a2, a3, a4, a5, a6, a7, a8, a9, a10, a11⟩, b1, b2, b3, b4⟩ := h
  refine ⟨⟨by simp, by simp; omega, by simp [a3], ?_, ?_, ?_, ?_, a8, a9, a10, a11⟩, b1, b2, b3, b4⟩
  · rw [List.getElem?_append_left (by omega)]; exact a4
  · rw [List.getElem?_append_left (by omega)]; exact a5
  · intro x hx
    rw [List.tail_append_of_ne_nil (by intro e; rw [e] at a1; simp at a1)] at hx
    rcases List.mem_append.1 hx with hx | hx
    · exact a6 x hx
    · simp at hx; subst hx; exact f0
  · intro x hx
    rcases List.mem_append.1 hx with hx | hx
    · exact a7 x hx
    · simp at hx; subst hx; exact f1
theorem OKG.node {g : Gr} {x0 x1 x2 : List UInt8} (h : OKG g) (he : nodeE g x0 x1 x2 0 = 0) : OKG { g with nodes := g.nodes ++ [nodeOf x0 x1 x2] } := by
  obtain ⟨he, hr⟩ := roomE_zero he
  obtain ⟨he, hf⟩ := fitsE_zero he
  obtain ⟨he, _⟩ := numE_zero he
  obtain ⟨he, _⟩ := smallE_zero he
  obtain ⟨_, hp1, hp2⟩ := placeE_zero he
  rw [kindsL_len] at hp2
  have f0 := hf x1 (by simp)
  obtain ⟨⟨a1, a2, a3, a4, a5, a6, a7, a8, a9, a10, a11⟩, b1, b2, b3, b4⟩ := h
  have mem : ∀ {x : Nd}, x ∈ g.nodes ++ [nodeOf x0 x1 x2] → x ∈ g.nodes ∨ x = nodeOf x0 x1 x2 := fun hx => by
    rcases List.mem_append.1 hx with hx | hx
    · exact .inl hx
    · simp at hx; exact .inr hx
  refine ⟨⟨a1, a2, a3, a4, a5, a6, a7, by simp; omega, a9, fun x hx => ?_, a11⟩, fun x hx => ?_, fun x hx => ?_, fun x hx => ?_, fun x hx => ?_⟩
  · rcases mem hx with hx | rfl
    · exact a10 x hx
    · exact ⟨⟨by simp [nodeOf]; omega, by simp [nodeOf]; omega⟩, f0, by simp [nodeOf], fun y hy => by simp [nodeOf] at hy⟩
  · rcases mem hx with hx | rfl
    · exact b1 x hx
    · exact ⟨hp1, hp2⟩
  · rcases mem hx with hx | rfl
    · exact b2 x hx
    · intro y hy; simp [nodeOf] at hy
  · rcases mem hx with hx | rfl
    · exact b3 x hx
    · exact numV_i64 x2
  · rcases mem hx with hx | rfl
    · exact b4 x hx
    · intro y hy; simp [nodeOf] at hy
theorem OKG.ins {g : Gr} {x0 x1 : List UInt8} (h : OKG g) (he : insE g x0 x1 0 = 0) : OKG { g with nodes := addIns g.nodes (insOf x0 x1) } := by
  unfold insE at he
  split at he
  · exact (orE_zero he (by decide)).elim
  next hne =>
  obtain ⟨he, hr⟩ := roomE_zero he
  obtain ⟨he, _⟩ := numE_zero he
  obtain ⟨_, hp1, hp2⟩ := placeE_zero he
  rw [codesL_len] at hp2
  obtain ⟨l', x, e1, e2, e3⟩ := addIns_eq g.nodes hne (insOf x0 x1)
  rw [e3] at hr
  obtain ⟨⟨a1, a2, a3, a4, a5, a6, a7, a8, a9, a10, a11⟩, b1, b2, b3, b4⟩ := h
  rw [e2]
  rw [e1] at a8 a10 b1 b2 b3 b4
  have mem : ∀ {z : Nd}, z ∈ l' ++ [{ x with prog := x.prog ++ [insOf x0 x1] }] → z ∈ l' ++ [x] ∨ z = { x with prog := x.prog ++ [insOf x0 x1] } := fun hx => by
    rcases List.mem_append.1 hx with hx | hx
    · exact .inl (List.mem_append_left _ hx)
    · simp at hx; exact .inr hx
  have hx : x ∈ l' ++ [x] := by simp
  refine ⟨⟨a1, a2, a3, a4, a5, a6, a7, by simpa using a8, a9, fun z hz => ?_, a11⟩, fun z hz => ?_, fun z hz => ?_, fun z hz => ?_, fun z hz => ?_⟩
  · rcases mem hz with hz | rfl
    · exact a10 z hz
    · obtain ⟨c1, c2, c3, c4⟩ := a10 x hx
      refine ⟨c1, c2, by simp; omega, fun y hy => ?_⟩
      rcases List.mem_append.1 hy with hy | hy
      · exact c4 y hy
      · simp at hy; subst hy; exact ⟨by simp [insOf]; omega, by simp [insOf]; omega⟩
  · rcases mem hz with hz | rfl
    · exact b1 z hz
    · exact b1 x hx
  · rcases mem hz with hz | rfl
    · exact b2 z hz
    · intro y hy
      rcases List.mem_append.1 hy with hy | hy
      · exact b2 x hx y hy
      · simp at hy; subst hy; exact ⟨hp1, hp2⟩
  · rcases mem hz with hz | rfl
    · exact b3 z hz
    · exact b3 x hx
  · rcases mem hz with hz | rfl
    · exact b4 z hz
    · intro y hy
      rcases List.mem_append.1 hy with hy | hy
      · exact b4 x hx y hy
      · simp at hy; subst hy; exact numV_i64 x1
theorem OKG.edge {g : Gr} {x0 x1 x2 x3 : List UInt8} (h : OKG g) (he : edgeE g x0 x1 x2 x3 0 = 0) : OKG { g with edges := g.edges ++ [edgeOf x0 x1 x2 x3] } := by
  obtain ⟨he, hr⟩ := roomE_zero he
  obtain ⟨_, hf⟩ := fitsE_zero he
  have f0 := hf x0 (by simp)
  have f1 := hf x1 (by simp)
  have f2 := hf x2 (by simp)
  obtain ⟨⟨a1, a2, a3, a4, a5, a6, a7, a8, a9, a10, a11⟩, b1, b2, b3, b4⟩ := h
  refine ⟨⟨a1, a2, a3, a4, a5, a6, a7, a8, by simp; omega, a10, fun x hx => ?_⟩, b1, b2, b3, b4⟩
  rcases List.mem_append.1 hx with hx | hx
  · exact a11 x hx
  · simp at hx; subst hx; exact ⟨f0, f1, f2⟩
theorem OKG.line {g : Gr} (h : OKG g) (ws : List (List UInt8)) (he : (lineStep g ws 0).2 = 0) : OKG (lineStep g ws 0).1 := by
  unfold lineStep at he ⊢
  split
  · next a x0 x1 =>
    simp only at he
    by_cases h1 : a = wScope
    · rw [if_pos h1] at he ⊢; exact h.scope he
    · rw [if_neg h1] at he ⊢
      by_cases h2 : a = wIns
      · rw [if_pos h2] at he ⊢; exact h.ins he
      · rw [if_neg h2] at he ⊢; exact h
  · next a x0 x1 x2 =>
    simp only at he
    by_cases h1 : a = wNode
    · rw [if_pos h1] at he ⊢; exact h.node he
    · rw [if_neg h1] at he ⊢; exact h
  · next a x0 x1 x2 x3 =>
    simp only at he
    by_cases h1 : a = wEdge
    · rw [if_pos h1] at he ⊢; exact h.edge he
    · rw [if_neg h1] at he ⊢; exact h
  · exact h
theorem parseGo_ok : ∀ (r : List (List UInt8)) (i : Nat) (g : Gr), OKG g → (parseGo i r g).2.1 = 0 → OKG (parseGo i r g).1
  | [], _, g, h, _ => h
  | l :: r, i, g, h, he => by
    rw [parseGo] at he ⊢
    by_cases h1 : 4096 ≤ i ∨ 256 < l.length
    · rw [if_pos h1] at he; simp at he
    · rw [if_neg h1] at he ⊢
      by_cases h2 : idle (wordsOf (bs l)) = true
      · rw [if_pos h2] at he ⊢; exact parseGo_ok r _ g h he
      · rw [if_neg h2] at he ⊢
        by_cases h3 : (lineStep g (wordsOf (bs l)) 0).2 = 0
        · rw [if_pos h3] at he ⊢; exact parseGo_ok r _ _ (h.line _ h3) he
        · rw [if_neg h3] at he; exact (h3 he).elim
theorem parseGo_no : ∀ (r : List (List UInt8)) (i : Nat) (g : Gr), (parseGo i r g).2.1 ≠ 0 → (parseGo i r g).1 = noG
  | [], _, g, h => absurd rfl h
  | l :: r, i, g, he => by
    rw [parseGo] at he ⊢
    by_cases h1 : 4096 ≤ i ∨ 256 < l.length
    · rw [if_pos h1]
    · rw [if_neg h1] at he ⊢
      by_cases h2 : idle (wordsOf (bs l)) = true
      · rw [if_pos h2] at he ⊢; exact parseGo_no r _ g he
      · rw [if_neg h2] at he ⊢
        by_cases h3 : (lineStep g (wordsOf (bs l)) 0).2 = 0
        · rw [if_pos h3] at he ⊢; exact parseGo_no r _ _ he
        · rw [if_neg h3]
theorem fits_of {g : Gr} (h : FitG g) : fitsB g = true := by
  obtain ⟨a1, a2, a3, a4, a5, a6, a7, a8, a9, a10, a11⟩ := h
  simp only [fitsB, headOK, Bool.and_eq_true, decide_eq_true_eq]
  refine ⟨⟨⟨a1, a2, a3⟩, a4, a5, smallB_iff.2 a6, smallB_iff.2 a7⟩, ⟨a8, a9⟩, List.all_eq_true.2 fun x hx => ?_, ?_⟩
  · obtain ⟨c1, c2, c3, c4⟩ := a10 x hx
    simp only [nodeOK, Bool.and_eq_true, decide_eq_true_eq, Bool.not_eq_true']
    refine ⟨smallB_iff.2 (by simp; omega), c3, ?_⟩
    rw [List.any_eq_false]
    intro y hy
    rw [Bool.not_eq_true]
    exact badB_not.2 (c4 y hy)
  · rw [Bool.not_eq_true', List.any_eq_false]
    intro x hx
    obtain ⟨c1, c2, c3⟩ := a11 x hx
    have : smallB [x.frm, x.dst, x.port] = true := smallB_iff.2 (by simp; omega)
    simp [edBad, this]
theorem okG_names {g : Gr} (h : OKG g) : badNodes g = false := by
  unfold badNodes
  rw [List.any_eq_false]
  intro x hx
  have h1 := h.kinds x hx
  rw [Bool.not_eq_true]
  simp only [nodeBadNm, Bool.or_eq_false_iff]
  refine ⟨by simp [nmOK, kindsL_len]; omega, ?_⟩
  rw [List.any_eq_false]
  intro y hy
  have h2 := h.ops x hx y hy
  simp [insBadNm, nmOK, codesL_len]; omega
theorem okG_show {g : Gr} (h : OKG g) : showSpec g = (showText g, 0) := showSpec_ok (fits_of h.fit) (okG_names h)
/-- what is shown can be shown -/
theorem show_okG {g : Gr} (h : (showSpec g).2 = 0) (ha : ∀ x ∈ g.nodes, I64 x.arg) (hn : ∀ x ∈ g.nodes, ∀ y ∈ x.prog, I64 y.n) : OKG g := by
  unfold showSpec at h
  split at h
  · next hc =>
    simp only [Bool.and_eq_true, Bool.not_eq_true'] at hc
    obtain ⟨h1, h2⟩ := hc
    rw [List.any_eq_false] at h2
    refine ⟨fitG h1, fun x hx => ?_, fun x hx y hy => ?_, ha, hn⟩
    · have := h2 x hx
      simp [nodeBadNm, nmOK, kindsL_len] at this
      omega
    · have := h2 x hx
      simp only [nodeBadNm, Bool.or_eq_true, not_or, Bool.not_eq_true, List.any_eq_false] at this
      have := this.2 y hy
      simp [insBadNm, nmOK, codesL_len] at this
      omega
  · simp at h

end Go.Proofs.YtigdaaloagecgaaGreatDoor
