/-
  text.Show's state between its lines, and what each callee leaves of it. No condition of their own.
-/
import Derived.Test.YtigdaaloagecgaaGreatDoorSay
import Derived.Test.YtigdaaloagecgaaGreatDoorPut2
import Derived.Lib.ItoaLen
namespace Go.Proofs.YtigdaaloagecgaaGreatDoor
open Go.RowKit

/-- the shower in block b has taken l, its flag is q; the boxes X stand -/
structure SSt (B : Nat) (w : World) (b : Nat) (l : List UInt8) (n : Nat) (q : Bool) (X : List (Nat × Array Value × TypeId)) (W : World) : Prop where
  below : Below B w W
  libs : Libs W
  shw : IsShow b b (Lib.byteCells l) q W
  boxes : ∀ x ∈ X, W.heap[x.1]? = some (.cells x.2.1 x.2.2 (0, 0)) ∧ x.1 ≠ b ∧ x.2.2 ≠ 5
  ge : B ≤ b
  ten : 10 ≤ B
  le : l.length ≤ n

theorem heap_lt {W : World} {k : Nat} {o : Obj} (h : W.heap[k]? = some o) : k < W.heap.size := by
  rcases Nat.lt_or_ge k W.heap.size with h' | h'
  · exact h'
  · simp [Array.getElem?_eq_none h'] at h
section
variable {B b n : Nat} {w W W' : World} {l : List UInt8} {q : Bool} {X : List (Nat × Array Value × TypeId)}
theorem SSt.sz (h : SSt B w b l n q X W) : b < W.heap.size := h.shw.lt
theorem SSt.bel (h : SSt B w b l n q X W) (hb : Below W.heap.size W W') : SSt B w b l n q X W' where
  below := h.below.trans (hb.mono (by have := h.sz; have := h.ge; omega))
  libs := h.libs.below hb (by have := h.sz; have := h.ge; have := h.ten; omega)
  shw := h.shw.later hb
  boxes := fun x hx => ⟨(hb.block _ (heap_lt (h.boxes x hx).1)).trans (h.boxes x hx).1, (h.boxes x hx).2⟩
  ge := h.ge
  ten := h.ten
  le := h.le
theorem SSt.drew (h : SSt B w b l n q X W) : SSt B w b l n q X W.drew := h.bel (Below.refl W.heap.size W).drew
theorem SSt.alloc (h : SSt B w b l n q X W) (o : Obj) : SSt B w b l n q X (W.alloc o) := h.bel ((Below.refl W.heap.size W).alloc (Nat.le_refl _) o)
theorem SSt.more (h : SSt B w b l n q X W) {k : Nat} {cs : Array Value} {t : TypeId} (hk : W.heap[k]? = some (.cells cs t (0, 0))) (hne : k ≠ b) (ht : t ≠ 5) : SSt B w b l n q ((k, cs, t) :: X) W :=
  ⟨h.below, h.libs, h.shw, fun x hx => (List.mem_cons.1 hx).elim (fun e => by subst e; exact ⟨hk, hne, ht⟩) (fun hx => h.boxes x hx), h.ge, h.ten, h.le⟩
theorem SSt.less (h : SSt B w b l n q X W) {Y : List (Nat × Array Value × TypeId)} (hY : ∀ y ∈ Y, y ∈ X) : SSt B w b l n q Y W :=
  { h with boxes := fun x hx => h.boxes x (hY x hx) }
theorem SSt.box (h : SSt B w b l n q X W) {cs : Array Value} {t : TypeId} (ht : t ≠ 5) : SSt B w b l n q ((W.heap.size, cs, t) :: X) (W.alloc (.cells cs t)) :=
  (h.alloc _).more (heap_alloc_new _ _ _) (by have := h.sz; omega) ht
theorem SSt.cell (h : SSt B w b l n q X W) {k i : Nat} {cs : Array Value} {t : TypeId} {v : Value} (hx : (k, cs, t) ∈ X) (hv : cs[i]? = some v) : W.cell? ⟨k, i, none⟩ = some v := by
  rw [Lib.cell_of_heap (h.boxes _ hx).1]; exact hv
theorem SSt.step {l' : List UInt8} {n' : Nat} {q' : Bool} (h : SSt B w b l n q X W) (hb : Below b W W') (ho : Lib.OthersKept 5 (some b) W W') (hs : IsShow b b (Lib.byteCells l') q' W') (hn : l'.length ≤ n') : SSt B w b l' n' q' X W' where
  below := h.below.trans (hb.mono h.ge)
  libs := h.libs.below hb (by have := h.ge; have := h.ten; omega)
  shw := hs
  boxes := fun x hx => by
    obtain ⟨h1, h2, h3⟩ := h.boxes x hx
    exact ⟨ho _ _ h1 (fun e => h2 (by injection e)) (fun c fz e => h3 (by injection e)), h2, h3⟩
  ge := h.ge
  ten := h.ten
  le := hn

theorem itoa_st (h : SSt B w b l n q X W) (m : Int) (hm : I64 m) : Calls Tryz.prog 13 #[.int .i64 m] W fun e w' => e = .returned (.string (bs (Lib.itoa m))) ∧ SSt B w b l n q X w' :=
  (itoa_any m hm W h.libs).mono fun _ _ ⟨he, hb⟩ => ⟨he, h.bel hb⟩
theorem num_st (h : SSt B w b l n q X W) (m : Int) (hm : I64 m) : Calls Tryz.prog 16 #[.int .i64 m] W fun e w' => e = .returned (.string (bs (Lib.itoa m))) ∧ SSt B w b l n q X w' :=
  (num_any m hm W h.libs).mono fun _ _ ⟨he, hb⟩ => ⟨he, h.bel hb⟩
theorem kinds_st (h : SSt B w b l n q X W) : Calls Tryz.prog 15 #[] W fun e w' => ∃ bk, e = .returned (.slice (some ⟨bk, 0, none⟩) 15 15) ∧ SSt B w b l n q ((bk, nameCells kindsL, 9) :: X) w' :=
  (kinds_any W h.libs).mono fun _ _ ⟨he, hb⟩ => ⟨_, he, by rw [hb]; exact h.box (by decide)⟩
theorem codes_st (h : SSt B w b l n q X W) : Calls Tryz.prog 17 #[] W fun e w' => ∃ bk, e = .returned (.slice (some ⟨bk, 0, none⟩) 16 16) ∧ SSt B w b l n q ((bk, nameCells codesL, 9) :: X) w' :=
  (codes_any W h.libs).mono fun _ _ ⟨he, hb⟩ => ⟨_, he, by rw [hb]; exact h.box (by decide)⟩
theorem nameCells_at {ns : List (List UInt8)} {j : Nat} {x : List UInt8} (h : ns[j]? = some x) : (nameCells ns)[j]? = some (.string (bs x)) := by
  simp [nameCells, h]
theorem name_st {bk : Nat} {ns : List (List UInt8)} (h : SSt B w b l n q ((bk, nameCells ns, 9) :: X) W) (c m : Nat) (k : Int) (hm : ns.length = m) (hm1 : m ≤ 1000000) :
    Calls Tryz.prog 14 #[.pointer (some ⟨b, 0, none⟩), .slice (some ⟨bk, 0, none⟩) m c, .int .i64 k] W fun e w' => e = .returned (.string (bs (nmOf ns k))) ∧ SSt B w b l n (q || !nmOK ns k) X w' :=
  (name_any b b l q bk c ns k m W h.shw hm (fun _ _ hx => h.cell (List.mem_cons_self ..) (nameCells_at hx)) hm1).mono fun _ _ ⟨he, hs, hb, ho⟩ => ⟨he, (h.step hb ho hs h.le).less fun _ hy => List.mem_cons_of_mem _ hy⟩
theorem say_st {g m k : Nat} {cs : Array Value} (h : SSt B w b l n q ((g, cs, 9) :: X) W) (xs : List (List UInt8)) (hcs : cs = nameCells xs) (hm : xs.length = m) (hk : (lineOf xs).length ≤ k) (hb : n + k + m < 900000) :
    Calls Tryz.prog 12 #[.pointer (some ⟨b, 0, none⟩), .slice (some ⟨g, 0, none⟩) m m] W fun e w' => e = .returned (.tuple #[]) ∧ SSt B w b (l ++ lineOf xs) (n + k) q X w' := by
  have hlo : (lineOf xs).length = (Lib.join xs [32]).length + 1 := by simp [lineOf]
  have := h.le
  refine (say_any b b l q g m m xs _ h.shw (Nat.le_of_lt h.sz) hm (Nat.le_refl _) (fun _ _ hx => h.cell (List.mem_cons_self ..) (by rw [hcs]; exact nameCells_at hx)) (heap_lt (h.boxes _ (List.mem_cons_self ..)).1) (by omega) (by omega)).mono ?_
  rintro e w' ⟨he, hs, hb, ho⟩
  exact ⟨he, (h.step hb ho hs (by rw [List.length_append]; omega)).less fun _ hy => List.mem_cons_of_mem _ hy⟩
end

/-- lines as they are shown -/
def wScope : List UInt8 := [115, 99, 111, 112, 101]
def wNode : List UInt8 := [110, 111, 100, 101]
def wIns : List UInt8 := [105, 110, 115]
def wEdge : List UInt8 := [101, 100, 103, 101]
def wPipe : List UInt8 := [112, 105, 112, 101]
def wKey : List UInt8 := [107, 101, 121]
def scopeT (x : Int × Int) : List UInt8 := lineOf [wScope, Lib.itoa x.1, Lib.itoa x.2]
def insT (y : Ins) : List UInt8 := lineOf [wIns, nmOf codesL y.op, Lib.itoa y.n]
def nodeT (x : Nd) : List UInt8 := lineOf [wNode, nmOf kindsL x.kind, Lib.itoa x.scope, Lib.itoa x.arg] ++ x.prog.flatMap insT
def edgeT (x : Ed) : List UInt8 := lineOf [wEdge, Lib.itoa x.frm, Lib.itoa x.dst, Lib.itoa x.port, if x.ex then wKey else wPipe]
def insBadNm (y : Ins) : Bool := !nmOK codesL y.op
def nodeBadNm (x : Nd) : Bool := !nmOK kindsL x.kind || x.prog.any insBadNm
def showText (g : Gr) : List UInt8 := (scopesL g).flatMap scopeT ++ g.nodes.flatMap nodeT ++ g.edges.flatMap edgeT
/-- text.Show -/
def showSpec (g : Gr) : List UInt8 × Int := if fitsB g && !g.nodes.any nodeBadNm then (showText g, 0) else ([], 1)

theorem any_take {α : Type} {l : List α} {k : Nat} {x : α} (f : α → Bool) (h : l[k]? = some x) : (l.take (k + 1)).any f = ((l.take k).any f || f x) := by
  have hk : k < l.length := (List.getElem?_eq_some_iff.1 h).1
  rw [List.take_succ_eq_append_getElem hk]
  have : l[k] = x := by rw [List.getElem?_eq_getElem hk] at h; injection h
  simp [this]

theorem joinTail_len (r : List (List UInt8)) : (Lib.joinTail [32] r).length = (r.map fun y => y.length + 1).sum := by
  induction r with
  | nil => rfl
  | cons y r ih =>
    show ((([32] ++ y) :: r.map ([32] ++ ·)).flatten).length = _
    rw [List.flatten_cons, List.length_append]
    have : ((r.map ([32] ++ ·)).flatten).length = (r.map fun y => y.length + 1).sum := ih
    rw [this]; simp
theorem lineOf_len (x : List UInt8) (r : List (List UInt8)) : (lineOf (x :: r)).length = x.length + (r.map fun y => y.length + 1).sum + 1 := by
  rw [lineOf, List.length_append, Lib.join_cons, List.length_append, joinTail_len]; rfl
theorem kindsL_le : ∀ y ∈ kindsL, y.length ≤ 8 := by decide +kernel
theorem codesL_le : ∀ y ∈ codesL, y.length ≤ 8 := by decide +kernel
theorem nmOf_le {ns : List (List UInt8)} (h : ∀ y ∈ ns, y.length ≤ 8) (k : Int) : (nmOf ns k).length ≤ 8 := by
  unfold nmOf
  split
  · next hk =>
    have hlt : (k - 1).toNat < ns.length := by omega
    rw [List.getD_eq_getElem?_getD, List.getElem?_eq_getElem hlt]
    exact h _ (List.getElem_mem hlt)
  · simp
theorem itoa_le {m : Int} (h : I64 m) : (Lib.itoa m).length ≤ 21 := Lib.itoa_length_le m h.1 h.2
theorem scope_len {p q : Int} (hp : I64 p) (hq : I64 q) : (lineOf [wScope, Lib.itoa p, Lib.itoa q]).length ≤ 100 := by
  rw [lineOf_len]; have := itoa_le hp; have := itoa_le hq; simp [wScope]; omega
theorem nodeLine_len {k p q : Int} (hp : I64 p) (hq : I64 q) : (lineOf [wNode, nmOf kindsL k, Lib.itoa p, Lib.itoa q]).length ≤ 100 := by
  rw [lineOf_len]; have := itoa_le hp; have := itoa_le hq; have := nmOf_le kindsL_le k; simp [wNode]; omega
theorem ins_len {k p : Int} (hp : I64 p) : (lineOf [wIns, nmOf codesL k, Lib.itoa p]).length ≤ 100 := by
  rw [lineOf_len]; have := itoa_le hp; have := nmOf_le codesL_le k; simp [wIns]; omega
theorem edge_len {p q r : Int} (hp : I64 p) (hq : I64 q) (hr : I64 r) (s : List UInt8) (hs : s.length ≤ 4) : (lineOf [wEdge, Lib.itoa p, Lib.itoa q, Lib.itoa r, s]).length ≤ 100 := by
  rw [lineOf_len]; have := itoa_le hp; have := itoa_le hq; have := itoa_le hr; simp [wEdge]; omega

end Go.Proofs.YtigdaaloagecgaaGreatDoor
