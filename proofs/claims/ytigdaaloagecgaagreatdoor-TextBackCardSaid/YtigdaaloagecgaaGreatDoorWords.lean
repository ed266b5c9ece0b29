/-
  Plain facts on texts: a number's numeral is read as the number; words with blanks between are found; lines are cut. No condition.
-/
import Derived.Lib.ParseIntBTie
import Derived.Lib.ItoaNum
import Derived.Lib.FieldsP
import Derived.Lib.SplitLaws
import Derived.Laws.RangeString
namespace Go.Proofs.YtigdaaloagecgaaGreatDoor

/-! ### numbers -/
theorem parse_digits (r : List UInt8) : ∀ u : Nat, u < 18446744073709551616 → Lib.parseUintM (2 ^ 64 - 1) 0 (Lib.decDigits u ++ r) = Lib.parseUintM (2 ^ 64 - 1) u r := by
  intro u
  induction u using Nat.strongRecOn generalizing r with
  | ind u ih =>
    intro hu
    by_cases h : u < 10
    · rw [Lib.decDigits, dif_pos h]
      have e : (UInt8.ofNat (48 + u)).toNat = 48 + u := by simp; omega
      rw [List.singleton_append, Lib.parseUintM, e, if_pos (by omega), if_neg (by omega), if_neg (by omega)]
      congr 1; omega
    · rw [Lib.decDigits, dif_neg h, List.append_assoc, ih (u / 10) (by omega) _ (by omega)]
      have e : (UInt8.ofNat (48 + u % 10)).toNat = 48 + u % 10 := by simp; omega
      rw [List.singleton_append, Lib.parseUintM, e, if_pos (by omega), if_neg (by omega), if_neg (by omega)]
      congr 1; omega
theorem digits_head (u : Nat) : ∃ d l, Lib.decDigits u = d :: l ∧ 48 ≤ d.toNat ∧ d.toNat ≤ 57 := by
  induction u using Nat.strongRecOn with
  | ind u ih =>
    by_cases h : u < 10
    · refine ⟨_, [], by rw [Lib.decDigits, dif_pos h], ?_, ?_⟩ <;> simp <;> omega
    · obtain ⟨d, l, e, h1, h2⟩ := ih (u / 10) (by omega)
      exact ⟨d, l ++ [UInt8.ofNat (48 + u % 10)], by rw [Lib.decDigits, dif_neg h, e]; rfl, h1, h2⟩
theorem parse_itoa (v : Int) (h0 : -9223372036854775808 ≤ v) (h1 : v ≤ 9223372036854775807) : Lib.parseIntB 64 (Lib.itoa v) = .ok v := by
  unfold Lib.itoa
  by_cases hn : v < 0
  · rw [if_pos hn, Lib.parseIntB_minus]
    have hd : Lib.decDigits v.natAbs ≠ [] := by obtain ⟨d, l, e, _⟩ := digits_head v.natAbs; rw [e]; simp
    have := parse_digits [] v.natAbs (by omega)
    rw [List.append_nil] at this
    rw [Lib.parseUintB, if_neg hd, this, Lib.parseUintM, Lib.signedC, if_neg (by simp; omega)]
    congr 1; omega
  · rw [if_neg hn]
    have := parse_digits [] v.toNat (by omega)
    rw [List.append_nil] at this
    obtain ⟨d, l, e, e1, e2⟩ := digits_head v.toNat
    rw [e] at this ⊢
    rw [Lib.parseIntB_plain 64 d l (by omega) (by omega), Lib.parseUintB, if_neg (by simp), this, Lib.parseUintM, Lib.signlessC, if_neg (by simp; omega)]
    congr 1; omega

/-- a byte that may stand in a word -/
def wordy (c : UInt8) : Bool := decide (33 ≤ c.toNat) && decide (c.toNat < 128)
theorem digits_wordy : ∀ u : Nat, ∀ c ∈ Lib.decDigits u, wordy c = true := by
  intro u
  induction u using Nat.strongRecOn with
  | ind u ih =>
    intro c hc
    by_cases h : u < 10
    · rw [Lib.decDigits, dif_pos h] at hc
      simp at hc; subst hc
      simp [wordy]; omega
    · rw [Lib.decDigits, dif_neg h] at hc
      simp at hc
      rcases hc with hc | hc
      · exact ih (u / 10) (by omega) c hc
      · subst hc; simp [wordy]; omega
theorem itoa_wordy (v : Int) : ∀ c ∈ Lib.itoa v, wordy c = true := by
  intro c hc
  unfold Lib.itoa at hc
  split at hc
  · rcases List.mem_cons.1 hc with h | h
    · subst h; decide
    · exact digits_wordy _ c h
  · exact digits_wordy _ c hc
theorem itoa_ne (v : Int) : Lib.itoa v ≠ [] := by
  unfold Lib.itoa
  split
  · simp
  · obtain ⟨d, l, e, _⟩ := digits_head v.toNat; rw [e]; simp

/-! ### words -/
def isSp (c : Nat) : Bool := c == 32
theorem drop_cons {s : ByteArray} {pos : Nat} {c : UInt8} {r : List UInt8} (h : s.data.toList.drop pos = c :: r) : pos < s.size ∧ s.data.toList.drop (pos + 1) = r ∧ (c.toNat < 128 → Utf8.decode s pos = (c.toNat, 1)) := by
  have h1 : pos < s.data.toList.length := by
    rcases Nat.lt_or_ge pos s.data.toList.length with h' | h'
    · exact h'
    · rw [List.drop_eq_nil_of_le h'] at h; cases h
  have hs : pos < s.size := by show pos < s.data.size; simpa using h1
  have h2 : s.data.toList.drop (pos + 1) = r := by rw [← List.drop_drop, h]; rfl
  refine ⟨hs, h2, fun hc => ?_⟩
  have hg : s[pos] = c := by
    have := List.drop_eq_getElem_cons h1
    rw [this] at h
    injection h
  have := decode_ascii s pos hs (by simpa [hg] using hc)
  simpa [hg] using this
theorem spans_word (s : ByteArray) (a : Nat) (acc : List (Nat × Nat)) : ∀ (w : List UInt8) (f pos : Nat) (r : List UInt8), (∀ c ∈ w, wordy c = true) → s.data.toList.drop pos = w ++ r →
    Lib.spansFromP isSp s (f + w.length) pos (some a) acc = Lib.spansFromP isSp s f (pos + w.length) (some a) acc
  | [], f, pos, r, _, _ => rfl
  | c :: w, f, pos, r, hw, h => by
    obtain ⟨h1, h2, h3⟩ := drop_cons h
    have hc := hw c (List.mem_cons_self ..)
    simp [wordy] at hc
    rw [List.length_cons, ← Nat.add_assoc, Lib.spansFromP, if_pos h1, h3 hc.2, if_neg (by simp [isSp]; omega)]
    simp only
    rw [spans_word s a acc w f (pos + 1) r (fun c hc => hw c (List.mem_cons_of_mem _ hc)) h2]
    congr 1; omega
def spansL : Nat → List (List UInt8) → List (Nat × Nat)
  | _, [] => []
  | pos, w :: ws => (pos, pos + w.length) :: spansL (pos + w.length + 1) ws
def goodW (w : List UInt8) : Prop := w ≠ [] ∧ ∀ c ∈ w, wordy c = true
theorem spans_words (s : ByteArray) : ∀ (ws : List (List UInt8)) (w : List UInt8) (f pos : Nat) (acc : List (Nat × Nat)), goodW w → (∀ x ∈ ws, goodW x) → s.data.toList.drop pos = w ++ (ws.flatMap fun x => 32 :: x) → s.size ≤ pos + f →
    Lib.closeSpans s (Lib.spansFromP isSp s f pos none acc) = acc ++ spansL pos (w :: ws) := by
  intro ws
  induction ws with
  | nil =>
    intro w f pos acc ⟨hne, hw⟩ _ h hf
    obtain ⟨c, w', rfl⟩ := List.exists_cons_of_ne_nil hne
    have hsz : s.size = pos + (w'.length + 1) := by
      have := congrArg List.length h
      simp only [List.length_drop, Array.length_toList, List.length_append, List.length_cons, List.flatMap_nil, List.length_nil] at this
      have h1 : pos < s.data.size := (drop_cons (by simpa using h : s.data.toList.drop pos = c :: w')).1
      show s.data.size = _
      omega
    obtain ⟨h1, h2, h3⟩ := drop_cons (by simpa using h : s.data.toList.drop pos = c :: w')
    have hc := hw c (List.mem_cons_self ..)
    simp [wordy] at hc
    obtain ⟨f', rfl⟩ : ∃ f', f = f' + w'.length + 1 := ⟨f - w'.length - 1, by omega⟩
    rw [Lib.spansFromP, if_pos h1, h3 hc.2, if_neg (by simp [isSp]; omega)]
    simp only
    rw [spans_word s pos acc w' f' (pos + 1) [] (fun c hc => hw c (List.mem_cons_of_mem _ hc)) (by simpa using h2), Lib.spansFromP_end isSp s _ _ _ _ (by omega)]
    simp only [Lib.closeSpans, spansL, List.length_cons]
    rw [hsz]
  | cons x ws ih =>
    intro w f pos acc ⟨hne, hw⟩ hws h hf
    obtain ⟨c, w', rfl⟩ := List.exists_cons_of_ne_nil hne
    have hlen := congrArg List.length h
    simp only [List.length_drop, Array.length_toList, List.length_append, List.length_cons, List.flatMap_cons] at hlen
    obtain ⟨h1, h2, h3⟩ := drop_cons (by simpa using h : s.data.toList.drop pos = c :: (w' ++ _))
    have hc := hw c (List.mem_cons_self ..)
    simp [wordy] at hc
    have hsz : s.size = s.data.size := rfl
    obtain ⟨f', rfl⟩ : ∃ f', f = (f' + 1) + w'.length + 1 := ⟨f - w'.length - 2, by omega⟩
    rw [Lib.spansFromP, if_pos h1, h3 hc.2, if_neg (by simp [isSp]; omega)]
    simp only
    have h4 : s.data.toList.drop (pos + 1) = w' ++ (32 :: (x ++ ws.flatMap fun x => 32 :: x)) := by rw [h2]
    rw [spans_word s pos acc w' (f' + 1) (pos + 1) _ (fun c hc => hw c (List.mem_cons_of_mem _ hc)) h4]
    have h5 : s.data.toList.drop (pos + 1 + w'.length) = 32 :: (x ++ ws.flatMap fun x => 32 :: x) := by rw [← List.drop_drop, h4]; simp
    obtain ⟨g1, g2, g3⟩ := drop_cons h5
    rw [Lib.spansFromP, if_pos g1, g3 (by decide), if_pos (by decide)]
    simp only
    rw [ih x f' _ _ (hws x (List.mem_cons_self ..)) (fun y hy => hws y (List.mem_cons_of_mem _ hy)) g2 (by omega)]
    simp only [spansL, List.length_cons, List.append_assoc, List.singleton_append]
    rw [show pos + 1 + w'.length + 1 = pos + (w'.length + 1) + 1 by omega, show pos + 1 + w'.length = pos + (w'.length + 1) by omega]
theorem spans_extract (s : ByteArray) : ∀ (ws : List (List UInt8)) (w : List UInt8) (pos : Nat), s.data.toList.drop pos = w ++ (ws.flatMap fun x => 32 :: x) →
    (spansL pos (w :: ws)).map (fun x => (s.extract x.1 x.2).data.toList) = w :: ws := by
  intro ws
  induction ws with
  | nil =>
    intro w pos h
    simp only [spansL, List.map_cons, List.map_nil, List.cons.injEq, and_true]
    rw [Lib.extract_data, h]
    simp
  | cons x ws ih =>
    intro w pos h
    have h5 : s.data.toList.drop (pos + w.length + 1) = x ++ ws.flatMap fun x => 32 :: x := by
      rw [show pos + w.length + 1 = pos + (w.length + 1) by omega, ← List.drop_drop, h]; simp
    have := ih x _ h5
    rw [spansL, List.map_cons, this]
    congr 1
    rw [Lib.extract_data, h]
    simp
def wordsOf (s : ByteArray) : List (List UInt8) := (Lib.goFieldsP isSp s).map (·.data.toList)
theorem wordsOf_join (s : ByteArray) (w : List UInt8) (ws : List (List UInt8)) (hw : goodW w) (hws : ∀ x ∈ ws, goodW x) (h : s.data.toList = w ++ ws.flatMap fun x => 32 :: x) : wordsOf s = w :: ws := by
  unfold wordsOf Lib.goFieldsP Lib.spansOfP
  rw [spans_words s ws w s.size 0 [] hw hws (by simpa using h) (by omega), List.nil_append, List.map_map]
  exact spans_extract s ws w 0 (by simpa using h)

/-! ### lines -/
theorem index_line (c : UInt8) : ∀ (l r : List UInt8), c ∉ l → Lib.index (l ++ c :: r) [c] = (l.length : Int)
  | [], r, _ => by rw [List.nil_append, Lib.index]; simp [List.isPrefixOf]
  | b :: l, r, h => by
    have hb : b ≠ c := fun e => h (by subst e; exact List.mem_cons_self ..)
    have ih := index_line c l r (fun hm => h (List.mem_cons_of_mem _ hm))
    have hp : ([c] : List UInt8).isPrefixOf (b :: (l ++ c :: r)) = false := by simp [List.isPrefixOf, Ne.symm hb]
    rw [List.cons_append, Lib.index, hp, ih]
    simp
theorem split_lines : ∀ (ls : List (List UInt8)), (∀ l ∈ ls, (10 : UInt8) ∉ l) → Lib.splitK [10] 0 ls.length (ls.flatMap fun l => l ++ [10]) = ls ++ [[]]
  | [], _ => rfl
  | l :: ls, h => by
    have hl := h l (List.mem_cons_self ..)
    have e : ((l :: ls).flatMap fun l => l ++ [10]) = l ++ 10 :: (ls.flatMap fun l => l ++ [10]) := by simp
    rw [e, List.length_cons, Lib.splitK, index_line 10 l _ hl, if_neg (by simp)]
    simp only [Int.toNat_natCast, Nat.add_zero, List.take_left', List.length_cons, List.length_nil, Nat.zero_add]
    rw [show l ++ 10 :: (ls.flatMap fun l => l ++ [10]) = (l ++ [10]) ++ (ls.flatMap fun l => l ++ [10]) by simp, List.drop_left' (by simp), split_lines ls (fun x hx => h x (List.mem_cons_of_mem _ hx))]
    simp
theorem count_lines : ∀ (ls : List (List UInt8)), (∀ l ∈ ls, (10 : UInt8) ∉ l) → (ls.flatMap fun l => l ++ [10]).count 10 = ls.length
  | [], _ => rfl
  | l :: ls, h => by
    have hl := h l (List.mem_cons_self ..)
    rw [List.flatMap_cons, List.count_append, List.count_append, count_lines ls (fun x hx => h x (List.mem_cons_of_mem _ hx)), List.count_eq_zero.2 hl]
    simp; omega
end Go.Proofs.YtigdaaloagecgaaGreatDoor
