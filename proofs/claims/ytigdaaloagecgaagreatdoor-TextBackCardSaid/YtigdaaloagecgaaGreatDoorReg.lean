/-
  A statement whose order Go leaves open, some of whose operations write: those that only read are taken first, the others are met in each order that is left. A law of no program; no condition.
-/
import Derived.OrdersHeld
import Derived.StillTail
import Derived.Deep.QuietTactic
import Derived.BigQuiet
import Derived.Lib.Hide
import Derived.Below
namespace Go.Proofs.YtigdaaloagecgaaGreatDoor
open Go Go.RowKit

section
variable {P : Program} {ops : Array Oper} {Q : Exit → Act → World → Prop} {md : Region.Mode}

/-- operations that only read, or reckon -/
def readOp : Op → Bool
  | .move _ | .assign _ | .pick .. | .build .. | .load .. | .nilCheck _ | .binOp .. | .unOp .. | .convert .. | .slice .. | .fieldAddr .. | .field .. | .indexAddr .. | .index .. | .extract .. => true
  | _ => false

theorem run_fv {α : Type} (s : Sem α) (f : α → Value) (w : World) {x : Next} {w' : World} (h : (do let y ← s; pure (Next.value (f y)) : Sem Next).run P w = .ok x w') : ∃ v, x = .value v := by
  rw [Sem.run_bind] at h
  cases hs : s.run P w with
  | ok v w1 =>
    rw [hs] at h
    simp only [Result.andThen, Sem.run_pure] at h
    injection h with h1 _
    exact ⟨f v, h1.symm⟩
  | halt y w1 =>
    rw [hs] at h
    simp only [Result.andThen] at h
    cases h
theorem run_pv (v : Value) (w : World) {x : Next} {w' : World} (h : (pure (Next.value v) : Sem Next).run P w = .ok x w') : ∃ v, x = .value v := by
  rw [Sem.run_pure] at h
  injection h with h1 _
  exact ⟨v, h1.symm⟩
theorem run_bv {α : Type} (s : Sem α) (k : α → Sem Next) (hk : ∀ (y : α) (w : World) (x : Next) (w' : World), (k y).run P w = .ok x w' → ∃ v, x = .value v) (w : World) {x : Next} {w' : World} (h : (s >>= k).run P w = .ok x w') : ∃ v, x = .value v := by
  rw [Sem.run_bind] at h
  cases hs : s.run P w with
  | ok v w1 =>
    rw [hs] at h
    exact hk _ _ _ _ h
  | halt y w1 =>
    rw [hs] at h
    simp only [Result.andThen] at h
    cases h
theorem nilCheck_value (ρ : Operand → Value) (o : Oper) (y : Operand) (ho : o.op = .nilCheck y) (w : World) {x : Next} {w' : World} (h : (execOp ρ o).run P w = .ok x w') : ∃ v, x = .value v := by
  have hp : ∀ {x : Next} {w' : World}, (runtimePanic .nilDeref : Sem Next).run P w = .ok x w' → ∃ v, x = .value v := fun hh => by
    exfalso
    simp only [runtimePanic, Sem.run_bind] at hh
    simp at hh
  unfold execOp at h
  rw [ho] at h
  simp only at h
  split at h
  · exact hp h
  · exact hp h
  · exact hp h
  · split at h
    · exact hp h
    · refine run_bv _ _ (fun y w x w' h => ?_) w h
      refine run_bv _ _ (fun y w x w' h => ?_) w h
      split at h
      · refine run_bv _ _ (fun y w x w' h => ?_) w h
        exact run_pv _ w h
      · exact run_pv _ w h
    · exact run_pv _ w h
  · exact run_pv _ w h
theorem exec_value {ρ : Operand → Value} {o : Oper} (hr : readOp o.op = true) (w : World) {x : Next} {w' : World} (h : (execOp ρ o).run P w = .ok x w') : ∃ v, x = .value v := by
  obtain ⟨dst, op, ty, gd, af, ps⟩ := o
  cases op <;> first | (cases hr; done) | (exact nilCheck_value ρ _ _ rfl w h) | (exact run_pv _ w h) | (exact run_fv _ (fun y => y) w h) | (exact run_bv _ _ (fun _ _ _ _ h => run_pv _ _ h) w h)

/-- whatever order is picked from here on; behind an operation that is needed S still holds where it held -/
def wpAnyN (P : Program) (md : Region.Mode) (ops : Array Oper) (Q : Exit → Act → World → Prop) (need : Nat → Bool) (S : World → Prop) : Nat → Array Bool → Act → World → Prop
  | 0, listed, a, w => Region.ready md ops listed = [] ∧ Q .normal a w
  | fuel + 1, listed, a, w =>
    (Region.ready md ops listed = [] → Q .normal a w) ∧
    ∀ i ∈ Region.ready md ops listed, wpOp P ops Q i (fun a' w' => (need i = true → S w → S w') ∧ wpAnyN P md ops Q need S fuel (listed.setIfInBounds i true) a' w') a w
theorem wpAny_of_N {need : Nat → Bool} {S : World → Prop} : ∀ (fuel : Nat) (listed : Array Bool) (a : Act) (w : World), wpAnyN P md ops Q need S fuel listed a w → wpAny P md ops Q fuel listed a w
  | 0, _, _, _, h => h
  | fuel + 1, _, _, _, h => ⟨h.1, fun i hi => wpOp_mono (fun a' w' h' => wpAny_of_N fuel _ a' w' h'.2) (h.2 i hi)⟩

/-- what has come up is closed -/
structure Closed (md : Region.Mode) (ops : Array Oper) (listed : Array Bool) : Prop where
  size : listed.size = ops.size
  deps : ∀ (j : Nat) (oj : Oper), ops[j]? = some oj → listed.getD j false = true → ∀ e ∈ oj.after, Region.binds md e = true → listed.getD e.on false = true
theorem Closed.set {i : Nat} {listed : Array Bool} (inv : Closed md ops listed) (hi : i ∈ Region.ready md ops listed) : Closed md ops (listed.setIfInBounds i true) := by
  obtain ⟨_, oi, hoi, hall⟩ := mem_ready.1 hi
  refine ⟨by simp [inv.size], fun j oj hj hl e he hb => ?_⟩
  by_cases hij : i = j
  · subst hij
    have : oj = oi := Option.some.inj (hj.symm.trans hoi)
    subst this
    exact getD_set_true (hall e he hb)
  · rw [getD_set_ne false hij] at hl
    exact getD_set_true (inv.deps j oj hj hl e he hb)
theorem Closed.start : Closed md ops (Array.replicate ops.size false) := ⟨by simp, fun j oj _ hl => by rw [getD_replicate_false] at hl; cases hl⟩

/-- j waits for i, by a chain of waits down to i -/
def waitsB (md : Region.Mode) (ops : Array Oper) (i : Nat) : Nat → Nat → Bool
  | 0, _ => false
  | f + 1, j => match ops[j]? with
    | some oj => oj.after.any fun e => Region.binds md e && (e.on == i || waitsB md ops i f e.on)
    | none => false
theorem waits_not {i : Nat} {listed : Array Bool} (inv : Closed md ops listed) (hun : listed.getD i false = false) : ∀ (f j : Nat), waitsB md ops i f j = true → j ∉ Region.ready md ops listed ∧ listed.getD j false = false
  | 0, j, h => by cases h
  | f + 1, j, h => by
    unfold waitsB at h
    split at h
    · next oj hj =>
      obtain ⟨e, he, hb⟩ := Array.any_eq_true'.1 h
      simp only [Bool.and_eq_true, Bool.or_eq_true, beq_iff_eq] at hb
      have hon : listed.getD e.on false = false := by
        rcases hb.2 with h1 | h1
        · rw [h1]; exact hun
        · exact (waits_not inv hun f e.on h1).2
      refine ⟨fun hr => ?_, ?_⟩
      · obtain ⟨_, o', ho', hall⟩ := mem_ready.1 hr
        have : o' = oj := Option.some.inj (ho'.symm.trans hj)
        subst this
        rw [hall e he hb.1] at hon
        cases hon
      · cases hl : listed.getD j false with
        | false => rfl
        | true => rw [inv.deps j oj hj hl e he hb.1] at hon; cases hon
    · cases h

theorem N_first {need : Nat → Bool} {S Sy : World → Prop} {i : Nat} {oi : Oper} {v : Value} (hi : ops[i]? = some oi) (hsel : ∀ (j : Nat) (o : Oper) cs b, ops[j]? = some o → o.op ≠ .select cs b)
    (hQ : ∀ c a w, Q (.panic c) (a.put oi.dst v) w → Q (.panic c) a w)
    (hkeep : ∀ (j : Nat) (listed : Array Bool) (w w' : World), Closed md ops listed → listed.getD i false = false → j ∈ Region.ready md ops listed → Sy w → (need j = true → S w → S w') → Sy w') :
    ∀ (fuel : Nat) (listed : Array Bool) (a : Act) (w : World), Closed md ops listed →
      (∀ j oj, ops[j]? = some oj → j ≠ i → listed.getD j true = false → (∀ e ∈ oj.after, Region.binds md e = true → e.on ≠ i) → oi.apart ops oj = true) →
      i ∈ Region.ready md ops listed → YieldsIf P ops Sy oi v a → Sy w →
      wpAnyN P md ops Q need S fuel (listed.setIfInBounds i true) (a.put oi.dst v) w → wpAnyN P md ops Q need S (fuel + 1) listed a w := by
  intro fuel
  induction fuel with
  | zero =>
    intro listed a w inv _ hr hy hS H
    refine ⟨fun h => (by rw [h] at hr; cases hr), fun j hj => ?_⟩
    by_cases hji : j = i
    · subst hji; exact hy.wpOp hi hS ⟨fun _ h => h, H⟩
    · have := ready_mono hj hji
      rw [H.1] at this
      cases this
  | succ fuel ih =>
    intro listed a w inv hfree hr hy hS H
    have hun := getD_both (mem_ready.1 hr).1
    refine ⟨fun h => (by rw [h] at hr; cases hr), fun j hj => ?_⟩
    by_cases hji : j = i
    · subst hji; exact hy.wpOp hi hS ⟨fun _ h => h, H⟩
    · have h1 := H.2 j (ready_mono hj hji)
      obtain ⟨hjun, oj, hoj, hall⟩ := mem_ready.1 hj
      have hnot : ∀ e ∈ oj.after, Region.binds md e = true → e.on ≠ i := fun e he hb heq => by
        have h1 := hall e he hb
        rw [heq, hun] at h1
        cases h1
      have h2 := wpOp_putIf hoj (hfree j oj hoj hji hjun hnot) (fun cs b => hsel i oi cs b hi) (fun cs b => hsel j oj cs b hoj) hQ hy h1
      have hfree' : ∀ k ok, ops[k]? = some ok → k ≠ i → (listed.setIfInBounds j true).getD k true = false →
          (∀ e ∈ ok.after, Region.binds md e = true → e.on ≠ i) → oi.apart ops ok = true := fun k ok hk hki hun hno => by
        refine hfree k ok hk hki ?_ hno
        by_cases hjk : j = k
        · subst hjk; exact hjun
        · rw [getD_set_ne true hjk] at hun; exact hun
      refine wpOp_mono (fun a' w' h3 => ⟨h3.2.1, ih (listed.setIfInBounds j true) a' w' (inv.set hj) hfree' (ready_mono hr (Ne.symm hji)) h3.1 (hkeep j listed w w' inv hun hj hS h3.2.1) ?_⟩) h2
      rw [Array.setIfInBounds_comm _ _ hji]
      exact h3.2.2

/-- an operation that reads, as the quiet walk shows it, yields -/
theorem yields_of_q {S : World → Prop} {i : Nat} {o : Oper} {a : Act} {K : Act → Prop} (hr : readOp o.op = true) (hi : ops[i]? = some o) (h : qOp P ops S i K a) : ∃ v, YieldsIf P ops S o v a ∧ K (a.put o.dst v) := by
  obtain ⟨v, hy, hK⟩ := yieldsIn_of_qOp hi h
  refine ⟨v, ?_, hK⟩
  rcases hy with ⟨hw, hv⟩ | ⟨hw, hv⟩
  · refine .inl ⟨hw, fun w hS => ?_⟩
    have h1 := hv w hS
    unfold Oper.quietAt at h1
    cases hx : (execOp a.eval o).run P w with
    | ok x w' =>
      obtain ⟨u, rfl⟩ := exec_value hr w hx
      rw [hx] at h1
      obtain ⟨h2, h3⟩ := h1
      rw [h2, h3]
    | halt y w' => rw [hx] at h1; exact h1.elim
  · exact .inr ⟨hw, hv⟩

/-- may these be taken first, one behind the other? 'chk': what else is asked of each -/
def firstB (md : Region.Mode) (ops : Array Oper) (chk : Nat → Bool) : List Nat → Array Bool → Bool
  | [], _ => true
  | k :: r, listed => (Region.ready md ops listed).contains k && Region.free md ops listed k && ((ops[k]?).map (fun o => readOp o.op)).getD false && chk k && firstB md ops chk r (listed.setIfInBounds k true)
def setAll (π : List Nat) (listed : Array Bool) : Array Bool := π.foldl (fun l k => l.setIfInBounds k true) listed
theorem N_reads {need : Nat → Bool} {S Sy : World → Prop} {chk : Nat → Bool} {fuel : Nat} {w : World} {R : Act → Prop} (hs : Region.noSelect ops = true)
    (hQ : ∀ (d : Option Tmp) (v : Value) c a w, Q (.panic c) (a.put d v) w → Q (.panic c) a w)
    (hkeep : ∀ (i : Nat), chk i = true → ∀ (j : Nat) (listed : Array Bool) (w w' : World), Closed md ops listed → listed.getD i false = false → j ∈ Region.ready md ops listed → Sy w → (need j = true → S w → S w') → Sy w') (hw : Sy w) :
    ∀ (π : List Nat) (lo : List Oper) (listed : Array Bool) (a : Act), π.filterMap (ops[·]?) = lo → Closed md ops listed → firstB md ops chk π listed = true →
      wpQuiet P ops Sy R lo a → (∀ a', Closed md ops (setAll π listed) → R a' → wpAnyN P md ops Q need S fuel (setAll π listed) a' w) → wpAnyN P md ops Q need S (fuel + π.length) listed a w
  | [], lo, listed, a, hl, inv, _, h, hR => by
    subst hl
    exact hR a inv h
  | k :: π, lo, listed, a, hl, inv, hB, h, hR => by
    simp only [firstB, Bool.and_eq_true] at hB
    obtain ⟨⟨⟨⟨hr, hf⟩, hro⟩, hc⟩, hB'⟩ := hB
    have hr' : k ∈ Region.ready md ops listed := by simpa using hr
    obtain ⟨_, ok, hok, _⟩ := mem_ready.1 hr'
    rw [hok] at hro
    simp only [Option.map_some, Option.getD_some] at hro
    rw [List.filterMap_cons_some hok] at hl
    subst hl
    have hq : qOp P ops Sy k (wpQuiet P ops Sy R (π.filterMap (ops[·]?))) a := by unfold qOp; simp only [hok]; exact h
    obtain ⟨v, hy, hK⟩ := yields_of_q hro hok hq
    rw [List.length_cons, ← Nat.add_assoc]
    refine N_first hok (Region.noSelect_spec hs) (hQ _ _) (fun j l w w' hcl hun hj hS hn => hkeep k hc j l w w' hcl hun hj hS hn) (fuel + π.length) listed a w inv (Region.free_spec hok hf) hr' hy hw ?_
    exact N_reads hs hQ hkeep hw π _ _ _ rfl (inv.set hr') hB' hK hR

/-- a region that draws its order: 'πT' are taken first, in whatever world; then 'πC', in worlds that meet S; each of those waits ahead of what is not needed -/
theorem wp_region_N {id : Nat} {a : Act} {w : World} {l : List Oper} (need : Nat → Bool) (S : World → Prop) (πT πC : List Nat) (fuel : Nat)
    (hm : P.follows .mixedOrders = true) (hs : Region.noSelect l.toArray = true) (hlen : l.length = fuel + πC.length + πT.length)
    (hQ : ∀ (d : Option Tmp) (v : Value) c a w, Q (.panic c) (a.put d v) w → Q (.panic c) a w)
    (hT : firstB .any l.toArray (fun _ => true) πT (Array.replicate l.length false) = true)
    (hC : firstB .any l.toArray (fun i => (List.range l.length).all fun j => need j || waitsB .any l.toArray i l.length j) πC (setAll πT (Array.replicate l.length false)) = true)
    (hS : S w.drew)
    (h : wpQuiet P l.toArray (fun _ => True) (fun a1 => wpQuiet P l.toArray S (fun a2 => wpAnyN P .any l.toArray Q need S fuel (setAll πC (setAll πT (Array.replicate l.length false))) a2 w.drew) (πC.filterMap (l.toArray[·]?)) a1) (πT.filterMap (l.toArray[·]?)) a) :
    (Code.region id l.toArray true).wp P Q a w := by
  refine wp_region_any hm ?_
  refine wpAny_of_N _ _ _ _ (need := need) (S := S) ?_
  have hsz : l.toArray.size = l.length := by simp
  have h0 := N_reads (P := P) (ops := l.toArray) (Q := Q) (md := .any) (need := need) (S := S) (Sy := fun _ => True) (chk := fun _ => true) (fuel := fuel + πC.length) (w := w.drew) hs hQ (fun _ _ _ _ _ _ _ _ _ _ _ => trivial) trivial πT _ (Array.replicate l.length false) a rfl (by have := Closed.start (md := .any) (ops := l.toArray); rwa [hsz] at this) hT h
    (fun a1 inv1 h1 => N_reads (P := P) (ops := l.toArray) (Q := Q) (md := .any) (need := need) (S := S) (Sy := S) (chk := fun i => (List.range l.length).all fun j => need j || waitsB .any l.toArray i l.length j) (fuel := fuel) (w := w.drew) hs hQ
      (fun i hc j listed w w' hcl hun hj hSw hn => by
        have hjl : j < l.length := by
          obtain ⟨_, oj, hoj, _⟩ := mem_ready.1 hj
          have := (Array.getElem?_eq_some_iff.1 hoj).1
          simpa using this
        have h2 := List.all_eq_true.1 hc j (List.mem_range.2 hjl)
        rw [Bool.or_eq_true] at h2
        rcases h2 with h2 | h2
        · exact hn h2 hSw
        · exact absurd hj (waits_not hcl hun _ j h2).1) hS πC _ _ a1 rfl inv1 hC h1 (fun a2 _ h2 => h2))
  rw [hsz]
  rw [hlen] at h0 ⊢
  exact h0

theorem N_done {need : Nat → Bool} {S : World → Prop} {listed : Array Bool} {a : Act} {w : World} (hr : Region.ready md ops listed = []) (h : Q .normal a w) : ∀ fuel, wpAnyN P md ops Q need S fuel listed a w
  | 0 => ⟨hr, h⟩
  | _ + 1 => ⟨fun _ => h, by rw [hr]; simp⟩
theorem op_plain {i : Nat} {o : Oper} {K : Act → World → Prop} {a : Act} {w : World} (ho : ops[i]? = some o) (hg : o.guard = none) (h : Oper.wp P o a w K Q) : wpOp P ops Q i K a w := by
  unfold wpOp
  simp only [ho]
  have hw : Region.wanted o (yielded ops a.tmps) = true := by simp [Region.wanted, hg]
  rw [if_pos hw]
  exact .inl h
theorem N_one {need : Nat → Bool} {S : World → Prop} {fuel : Nat} {listed : Array Bool} {a : Act} {w : World} {k : Nat} {o : Oper} (hr : Region.ready md ops listed = [k]) (ho : ops[k]? = some o) (hg : o.guard = none)
    (h : Oper.wp P o a w (fun a' w' => Hid (need k = true → S w → S w') ∧ wpAnyN P md ops Q need S fuel (listed.setIfInBounds k true) a' w') Q) : wpAnyN P md ops Q need S (fuel + 1) listed a w := by
  refine ⟨fun h0 => (by rw [hr] at h0; cases h0), fun i hi => ?_⟩
  rw [hr] at hi
  have : i = k := by simpa using hi
  subst this
  exact op_plain ho hg h
theorem N_two {need : Nat → Bool} {S : World → Prop} {fuel : Nat} {listed : Array Bool} {a : Act} {w : World} {k k' : Nat} {o o' : Oper} (hr : Region.ready md ops listed = [k, k']) (ho : ops[k]? = some o) (hg : o.guard = none) (ho' : ops[k']? = some o') (hg' : o'.guard = none)
    (h : Oper.wp P o a w (fun a' w' => Hid (need k = true → S w → S w') ∧ wpAnyN P md ops Q need S fuel (listed.setIfInBounds k true) a' w') Q)
    (h' : Oper.wp P o' a w (fun a' w' => Hid (need k' = true → S w → S w') ∧ wpAnyN P md ops Q need S fuel (listed.setIfInBounds k' true) a' w') Q) : wpAnyN P md ops Q need S (fuel + 1) listed a w := by
  refine ⟨fun h0 => (by rw [hr] at h0; cases h0), fun i hi => ?_⟩
  rw [hr] at hi
  rcases List.mem_cons.1 hi with rfl | hi
  · exact op_plain ho hg h
  · have : i = k' := by simpa using hi
    subst this
    exact op_plain ho' hg' h'

/-- what is left comes up in one order, and nothing of it is needed -/
theorem N_seq {need : Nat → Bool} {S : World → Prop} : ∀ (l : List Oper) (k : Nat) (listed : Array Bool) (a : Act) (w : World), (∀ j, l[j]? = ops[k + j]?) → (∀ j, k ≤ j → need j = false) →
    Region.seqB md ops l.length k listed = true → wpList P ops Q l a w → wpAnyN P md ops Q need S l.length listed a w
  | [], _, _, _, _, _, _, hB, h => ⟨by simpa [Region.seqB] using hB, h⟩
  | o :: l, k, listed, a, w, hl, hn, hB, h => by
    have h0 : ops[k]? = some o := by simpa using (hl 0).symm
    simp only [List.length_cons, Region.seqB, Bool.and_eq_true, decide_eq_true_eq] at hB
    refine ⟨fun h1 => (by rw [hB.1] at h1; cases h1), fun i hi => ?_⟩
    rw [hB.1] at hi
    have hik : i = k := by simpa using hi
    subst hik
    have hw : wpOp P ops Q i (wpList P ops Q l) a w := by unfold wpOp; simp only [h0]; exact h
    refine wpOp_mono (fun a' w' h' => ⟨fun hc => (by rw [hn i (Nat.le_refl _)] at hc; cases hc), ?_⟩) hw
    exact N_seq l (i + 1) _ a' w' (fun j => by have := hl (j + 1); simpa [Nat.add_assoc, Nat.add_comm 1 j] using this) (fun j hj => hn j (by omega)) hB.2 h'
theorem N_tail {need : Nat → Bool} {S : World → Prop} {l : List Oper} {listed : Array Bool} {a : Act} {w : World} (k n : Nat) (hn : (l.drop k).length = n) (hk : ∀ j, k ≤ j → need j = false) (hB : Region.seqB md l.toArray n k listed = true)
    (h : wpList P l.toArray Q (l.drop k) a w) : wpAnyN P md l.toArray Q need S n listed a w := by
  subst hn
  exact N_seq (l.drop k) k listed a w (fun j => by simp [List.getElem?_drop]) hk hB h

/-- one operation that reads, in whatever world meets C -/
theorem C_step {C : World → Prop} {R : Act → Prop} {a : Act} {o : Oper} {rest : List Oper} {v : Value} (hg : o.guard = none) (hv : ∀ w, C w → (execOp a.eval o).run P w = .ok (.value v) w) (h : wpQuiet P ops C R rest (a.put o.dst v)) : wpQuiet P ops C R (o :: rest) a := by
  unfold wpQuiet
  have hw : Region.wanted o (yielded ops a.tmps) = true := by simp [Region.wanted, hg]
  rw [if_pos hw]
  exact ⟨v, fun w hC => by unfold Oper.quietAt; rw [hv w hC]; exact ⟨rfl, rfl⟩, h⟩

end
end Go.Proofs.YtigdaaloagecgaaGreatDoor
