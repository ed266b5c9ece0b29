/-
  Words for memory that all my texts of this seat use: how a list of data lies in a slice (Rep, Arr), and that it stays there while older blocks are left alone. No condition.
-/
import Derived.WalkKit
import Derived.WalkSpells
import Derived.WalkLawsBesides
import Derived.BigGuardPart
import Derived.BigQuiet
import Derived.Deep.QuietTactic
import Derived.Deep.Draws
import Derived.Lib.Hide
import Derived.Handy
import Derived.Deep.DeepCutAuto
import Derived.Deep.CutBlock
namespace Go.Proofs.YtigdaaloagecgaaGreatDoor
open Go.RowKit

theorem ret_int {k : IntKind} {a b : Int} (h : a = b) : Ending.returned (.int k a) = .returned (.int k b) := by rw [h]
theorem ret_bool {a b : Bool} (h : a = b) : Ending.returned (.bool a) = .returned (.bool b) := by rw [h]

/-- the cells below block B read in w' as they did in w -/
def Same (B : Nat) (w w' : World) : Prop := ∀ p : Addr, p.block < B → w'.cell? p = w.cell? p
theorem Same.refl (B : Nat) (w : World) : Same B w w := fun _ _ => rfl
theorem Same.trans {B : Nat} {a b c : World} (h : Same B a b) (k : Same B b c) : Same B a c := fun p hp => (k p hp).trans (h p hp)
theorem Same.of_below {B B' : Nat} {w w' : World} (h : Below B w w') (hB : B' ≤ B) : Same B' w w' := fun _ hp => h.cell (Nat.lt_of_lt_of_le hp hB)
theorem Same.alloc {B : Nat} {w : World} (hB : B ≤ w.heap.size) (o : Obj) : Same B w (w.alloc o) := fun p hp => World.cell?_alloc_lt w o p (by omega)

/-- how a datum lies in k cells -/
structure Rep (α : Type) where
  k : Nat
  R : World → Nat → (Nat → Option Value) → α → Prop
  keep : ∀ {w w' : World} {B : Nat} {c : Nat → Option Value} {x : α}, Same B w w' → R w B c x → R w' B c x
  more : ∀ {w : World} {B B' : Nat} {c : Nat → Option Value} {x : α}, B ≤ B' → R w B c x → R w B' c x

/-- A, n: a slice's address and length; its elements are the data xs -/
def Arr {α : Type} (r : Rep α) (w : World) (B : Nat) (A : Option Addr) (n : Nat) (xs : List α) : Prop :=
  xs.length = n ∧ (0 < n → ∃ b o, A = some ⟨b, o, none⟩ ∧ b < B ∧ ∀ i x, xs[i]? = some x → r.R w B (fun j => w.cell? ⟨b, o + i * r.k + j, none⟩) x)

section
variable {α : Type} {r : Rep α} {w w' : World} {B B' n : Nat} {A : Option Addr} {xs : List α}
theorem Arr.none_ : Arr r w B A 0 [] := ⟨rfl, fun h => absurd h (by omega)⟩
theorem Arr.len (h : Arr r w B A n xs) : xs.length = n := h.1
theorem Arr.keep (h : Arr r w B A n xs) (hs : Same B w w') : Arr r w' B A n xs :=
  ⟨h.1, fun hn => by
    obtain ⟨b, o, e, hb, hx⟩ := h.2 hn
    refine ⟨b, o, e, hb, fun i x hi => ?_⟩
    have h1 := r.keep hs (hx i x hi)
    have h2 : (fun j => w'.cell? ⟨b, o + i * r.k + j, none⟩) = (fun j => w.cell? ⟨b, o + i * r.k + j, none⟩) := funext fun j => hs ⟨b, _, none⟩ hb
    rw [h2]; exact h1⟩
theorem Arr.more (h : Arr r w B A n xs) (hB : B ≤ B') : Arr r w B' A n xs :=
  ⟨h.1, fun hn => by
    obtain ⟨b, o, e, hb, hx⟩ := h.2 hn
    exact ⟨b, o, e, by omega, fun i x hi => r.more hB (hx i x hi)⟩⟩
theorem Arr.below (h : Arr r w B A n xs) (hb : Below B w w') : Arr r w' B A n xs := h.keep (Same.of_below hb (Nat.le_refl _))
theorem Arr.belows {B0 : Nat} (h : Arr r w B A n xs) (hb : Below B0 w w') (hB : B ≤ B0) : Arr r w' B A n xs := h.keep (Same.of_below hb hB)
theorem Arr.at_ (h : Arr r w B A n xs) {k : Nat} (hk : k < n) : ∃ b o x, A = some ⟨b, o, none⟩ ∧ b < B ∧ xs[k]? = some x ∧ xs[k]'(by have := h.1; omega) = x ∧ r.R w B (fun j => w.cell? ⟨b, o + k * r.k + j, none⟩) x := by
  obtain ⟨b, o, e, hb, hx⟩ := h.2 (by omega)
  have hl : k < xs.length := by have := h.1; omega
  exact ⟨b, o, xs[k], e, hb, List.getElem?_eq_getElem hl, rfl, hx k _ (List.getElem?_eq_getElem hl)⟩
end

/-- a string of these bytes: a plain name, which no simp opens -/
def bs (l : List UInt8) : ByteArray := ⟨l.toArray⟩
theorem bs_size (l : List UInt8) : (bs l).size = l.length := by simp [bs, ByteArray.size]
theorem bs_list (l : List UInt8) : (bs l).data.toList = l := rfl
theorem bs_eq (l : List UInt8) : (⟨l.toArray⟩ : ByteArray) = bs l := rfl
theorem bs_of (s : ByteArray) : s = bs s.data.toList := rfl

/-- an int or int64 -/
def Rep.int : Rep Int where
  k := 1
  R := fun _ _ c x => c 0 = some (.int .i64 x) ∧ -9223372036854775808 ≤ x ∧ x ≤ 9223372036854775807
  keep := fun _ h => h
  more := fun _ h => h
/-- a string -/
def Rep.str : Rep (List UInt8) where
  k := 1
  R := fun _ _ c x => c 0 = some (.string (bs x)) ∧ x.length ≤ maxLen
  keep := fun _ h => h
  more := fun _ h => h
/-- a slice in one cell -/
def Rep.slice {α : Type} (r : Rep α) : Rep (List α) where
  k := 1
  R := fun w B c xs => ∃ A n cap, c 0 = some (.slice A n cap) ∧ n ≤ cap ∧ cap ≤ maxLen ∧ Arr r w B A n xs
  keep := fun hs ⟨A, n, cap, h1, h2, h3, h4⟩ => ⟨A, n, cap, h1, h2, h3, h4.keep hs⟩
  more := fun hB ⟨A, n, cap, h1, h2, h3, h4⟩ => ⟨A, n, cap, h1, h2, h3, h4.more hB⟩

theorem Addr.lit_add (b o k : Nat) : (⟨b, o, none⟩ : Addr).add k = ⟨b, o + k, none⟩ := by unfold Addr.add; split <;> simp_all
/-- a piece of a slice, from k on -/
theorem Arr.drop {α : Type} {r : Rep α} {w : World} {B n b o k : Nat} {xs : List α} (h : Arr r w B (some ⟨b, o, none⟩) n xs) (hk : k ≤ n) : Arr r w B (some ⟨b, o + k * r.k, none⟩) (n - k) (xs.drop k) := by
  refine ⟨by rw [List.length_drop, h.1], fun hn => ?_⟩
  obtain ⟨b', o', e, hb, hx⟩ := h.2 (by omega)
  injection e with e; injection e with e1 e2; subst e1; subst e2
  refine ⟨b, o + k * r.k, rfl, hb, fun i x hi => ?_⟩
  have h1 := hx (k + i) x (by rw [← hi, List.getElem?_drop])
  have h2 : (fun j => w.cell? ⟨b, o + (k + i) * r.k + j, none⟩) = (fun j => w.cell? ⟨b, o + k * r.k + i * r.k + j, none⟩) := funext fun j => by rw [Nat.add_mul]; simp only [Nat.add_assoc]
  rw [← h2]; exact h1
theorem Arr.zero {α : Type} {r : Rep α} {w : World} {B : Nat} {A : Option Addr} {xs : List α} (h : xs = []) : Arr r w B A 0 xs := ⟨by rw [h]; rfl, fun hn => absurd hn (by omega)⟩

/-- where 's[k:]' begins: under one name, so that no walk parts on it -/
def cutA (A : Option Addr) (cap lo size : Nat) : Option Addr := if cap = lo then A else A.map (·.add (lo * size))
theorem run_cut {P : Program} (t e : TypeId) (i : TypeInfo) (ht : P.underlying t = some (.slice e)) (hi : P.info? e = some i) (size : Nat) (hs : i.size = size) (A : Option Addr) (n cap lo : Nat) (hlo : lo ≤ n) (w : World) :
    (Instr.slice t (.slice A n cap) (some (.int .i64 (lo : Int))) none none).run P w = .ok (.slice (cutA A cap lo size) (n - lo) (cap - lo)) w := by
  subst hs
  simp [Instr.slice, run_underlying ht, Instr.sliceBounds, Instr.sliceBound, asIntOf, sizeOf, typeInfo, hi, cutA]
  intro hh; omega
theorem run_cut_hi {P : Program} (t e : TypeId) (i : TypeInfo) (ht : P.underlying t = some (.slice e)) (hi : P.info? e = some i) (A : Option Addr) (n cap up : Nat) (hup : up ≤ cap) (w : World) :
    (Instr.slice t (.slice A n cap) none (some (.int .i64 (up : Int))) none).run P w = .ok (.slice A up cap) w := by
  have h0 : A.map (fun x => x.add 0) = A := by cases A <;> simp [Addr.add]
  simp [Instr.slice, run_underlying ht, Instr.sliceBounds, Instr.sliceBound, asIntOf, sizeOf, typeInfo, hi, h0]
  intro hh; omega
theorem Arr.cut {α : Type} {r : Rep α} {w : World} {B n cap lo : Nat} {A : Option Addr} {xs : List α} (h : Arr r w B A n xs) (hlo : lo ≤ n) (hc : n ≤ cap) : Arr r w B (cutA A cap lo r.k) (n - lo) (xs.drop lo) := by
  by_cases hz : n = lo
  · subst hz
    rw [Nat.sub_self]
    exact Arr.zero (by rw [List.drop_eq_nil_iff]; have := h.len; omega)
  · obtain ⟨b, o, rfl, hb, hx⟩ := h.2 (by omega)
    have h2 := h.drop (k := lo) hlo
    unfold cutA
    rw [if_neg (by omega)]
    simp only [Option.map_some, Addr.lit_add]
    exact h2

/-- a slice of ints that was just built -/
theorem arr_ints {W : World} {b n : Nat} {cs : Array Value} {t : TypeId} {l : List Int} (hb : b = W.heap.size) (hn : l.length = n) (hl : ∀ (i : Nat) (x : Int), l[i]? = some x → cs[i]? = some (Value.int .i64 x) ∧ -9223372036854775808 ≤ x ∧ x ≤ 9223372036854775807) :
    Arr Rep.int (W.alloc (.cells cs t)) (W.alloc (.cells cs t)).heap.size (some ⟨b, 0, none⟩) n l := by
  refine ⟨hn, fun _ => ⟨b, 0, rfl, by simp; omega, fun i x hi => ?_⟩⟩
  obtain ⟨h1, h2, h3⟩ := hl i x hi
  refine ⟨?_, h2, h3⟩
  simp only [Rep.int, Nat.mul_one, Nat.add_zero, Nat.zero_add]
  subst hb
  rw [World.cell?_alloc_new]
  exact h1

end Go.Proofs.YtigdaaloagecgaaGreatDoor
