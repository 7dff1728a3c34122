/- Plain law: blanks ahead of a text and behind it change no term. -/
import Derived.Test.YtejpdfenejbjdaaGreatDoorModel
import Derived.Laws.RangeString
import Derived.Laws.RangeAny
namespace Go.Proofs.YtejpdfenejbjdaaGreatDoor.Txt
set_option linter.unusedVariables false
set_option linter.unusedSimpArgs false

/-- From place 'm' on a text holds another one, and blanks behind it. -/
structure Sh (m : Nat) (s s' : ByteArray) : Prop where
  size : m + s.size ≤ s'.size
  same : ∀ p, p < s.size → at? s' (m + p) = at? s p
  behind : ∀ p c, s.size ≤ p → at? s' (m + p) = some c → blankB c = true

theorem blank_cases {c : UInt8} (h : blankB c = true) : c = 32 ∨ c = 10 ∨ c = 9 ∨ c = 13 := by
  simp only [blankB, Bool.or_eq_true, beq_iff_eq] at h
  rcases h with ((h | h) | h) | h
  · exact .inl h
  · exact .inr (.inl h)
  · exact .inr (.inr (.inl h))
  · exact .inr (.inr (.inr h))
theorem Sh.at_iff {m : Nat} {s s' : ByteArray} (h : Sh m s s') (p : Nat) (c : UInt8) (hc : blankB c = false) : at? s' (m + p) = some c ↔ at? s p = some c := by
  by_cases hp : p < s.size
  · rw [h.same p hp]
  · rw [at?_ge (s := s) (by omega)]
    constructor
    · intro e
      have := h.behind p c (by omega) e
      rw [this] at hc; cases hc
    · intro e; cases e
theorem Sh.get {m : Nat} {s s' : ByteArray} (h : Sh m s s') (p : Nat) (hp : p < s.size) : ∃ hp' : m + p < s'.size, s'[m + p] = s[p] := by
  have e := h.same p hp
  rw [at?_lt hp] at e
  exact at?_some e
theorem Sh.far {m : Nat} {s s' : ByteArray} (h : Sh m s s') (p : Nat) (hp : s.size ≤ p) (hp' : m + p < s'.size) : blankB s'[m + p] = true :=
  h.behind p _ hp (at?_lt hp')

theorem Sh.span {m : Nat} {s s' : ByteArray} (h : Sh m s s') (f : UInt8 → Bool) (hf : ∀ c, blankB c = true → f c = false) : ∀ (d p : Nat), s.size - p = d → p ≤ s.size → span f s' (m + p) = m + span f s p := by
  intro d
  induction d with
  | zero =>
    intro p hd hp
    rw [span_end (s := s) (by omega)]
    by_cases hl : m + p < s'.size
    · exact span_no hl (hf _ (h.far p (by omega) hl))
    · exact span_end (by omega)
  | succ d ih =>
    intro p hd hp
    have hlt : p < s.size := by omega
    obtain ⟨hl, e⟩ := h.get p hlt
    cases hc : f s[p] with
    | true =>
      rw [span_yes hlt hc, span_yes hl (by rw [e]; exact hc)]
      exact ih (p + 1) (by omega) (by omega)
    | false => rw [span_no hlt hc, span_no hl (by rw [e]; exact hc)]
theorem digit_blank (c : UInt8) (h : blankB c = true) : digitB c = false := by rcases blank_cases h with rfl | rfl | rfl | rfl <;> rfl
theorem inside_blank (c : UInt8) (h : blankB c = true) : insideB c = false := by rcases blank_cases h with rfl | rfl | rfl | rfl <;> rfl
theorem small_blank (c : UInt8) (h : blankB c = true) : smallB c = false := by rcases blank_cases h with rfl | rfl | rfl | rfl <;> rfl
theorem Sh.digits {m : Nat} {s s' : ByteArray} (h : Sh m s s') {p : Nat} (hp : p ≤ s.size) : digitsEnd s' (m + p) = m + digitsEnd s p := h.span digitB digit_blank _ p rfl hp

theorem Sh.skip_far {m : Nat} {s s' : ByteArray} (h : Sh m s s') : ∀ (d p : Nat), s'.size - (m + p) = d → s.size ≤ p → m + p ≤ s'.size → skip s' (m + p) = s'.size := by
  intro d
  induction d with
  | zero => intro p hd hp hp'; rw [skip, span_end (by omega)]; omega
  | succ d ih =>
    intro p hd hp hp'
    have hl : m + p < s'.size := by omega
    rw [skip, span_yes hl (h.far p hp hl)]
    exact ih (p + 1) (by omega) (by omega) (by omega)
theorem Sh.skip {m : Nat} {s s' : ByteArray} (h : Sh m s s') : ∀ (d p : Nat), s.size - p = d → p ≤ s.size → (skip s p < s.size ∧ skip s' (m + p) = m + skip s p) ∨ (skip s p = s.size ∧ skip s' (m + p) = s'.size) := by
  intro d
  induction d with
  | zero =>
    intro p hd hp
    have := h.size
    exact .inr ⟨by rw [Txt.skip, span_end (by omega)]; omega, h.skip_far _ p rfl (by omega) (by omega)⟩
  | succ d ih =>
    intro p hd hp
    have hlt : p < s.size := by omega
    obtain ⟨hl, e⟩ := h.get p hlt
    cases hc : blankB s[p] with
    | true =>
      have e1 : Txt.skip s p = Txt.skip s (p + 1) := span_yes hlt hc
      have e2 : Txt.skip s' (m + p) = Txt.skip s' (m + (p + 1)) := span_yes hl (by rw [e]; exact hc)
      rw [e1, e2]
      exact ih (p + 1) (by omega) (by omega)
    | false =>
      have e1 : Txt.skip s p = p := span_no hlt hc
      have e2 : Txt.skip s' (m + p) = m + p := span_no hl (by rw [e]; exact hc)
      rw [e1, e2]
      exact .inl ⟨hlt, rfl⟩

def solid (l : List UInt8) : Bool := l.all fun c => !blankB c
theorem Sh.starts {m : Nat} {s s' : ByteArray} (h : Sh m s s') : ∀ (l : List UInt8) (p : Nat), solid l = true → starts s' (m + p) l = starts s p l := by
  intro l
  induction l with
  | nil => intro p _; rfl
  | cons c l ih =>
    intro p hl
    simp only [solid, List.all_cons, Bool.and_eq_true, Bool.not_eq_true'] at hl
    simp only [Txt.starts]
    rw [Nat.add_assoc, ih (p + 1) hl.2]
    congr 1
    exact decide_eq_decide.2 (h.at_iff p c hl.1)
theorem Sh.common {m : Nat} {s s' : ByteArray} (h : Sh m s s') : ∀ (l : List UInt8) (p : Nat), solid l = true → common s' (m + p) l = common s p l := by
  intro l
  induction l with
  | nil => intro p _; rfl
  | cons c l ih =>
    intro p hl
    simp only [solid, List.all_cons, Bool.and_eq_true, Bool.not_eq_true'] at hl
    simp only [Txt.common]
    rw [Nat.add_assoc, ih (p + 1) hl.2]
    by_cases e : at? s p = some c
    · rw [if_pos e, if_pos ((h.at_iff p c hl.1).2 e)]
    · rw [if_neg e, if_neg fun x => e ((h.at_iff p c hl.1).1 x)]
theorem starts_end {s : ByteArray} {p : Nat} (hp : s.size ≤ p) (c : UInt8) (l : List UInt8) : starts s p (c :: l) = false := by
  simp [starts, at?_ge hp]
theorem common_end {s : ByteArray} {p : Nat} (hp : s.size ≤ p) (c : UInt8) (l : List UInt8) : common s p (c :: l) = 0 := by
  simp [common, at?_ge hp]
theorem skip_end {s : ByteArray} {p : Nat} (hp : s.size ≤ p) : skip s p = p := span_end hp
theorem want_end {s : ByteArray} {p : Nat} (hp : s.size ≤ p) (c : UInt8) (l : List UInt8) : want s p (c :: l) = .bad 70 p := by
  rw [want, skip_end hp, starts_end hp, common_end hp]; rfl

/-- Two readings that go alike; behind the text's end nothing is said of a fault. -/
def Rel (m : Nat) (s : ByteArray) {α : Type} (r r' : PR α) : Prop :=
  (∃ v q, q ≤ s.size ∧ r = .ok v q ∧ r' = .ok v (m + q)) ∨ (∃ e a, a < s.size ∧ r = .bad e a ∧ r' = .bad e (m + a)) ∨ (∃ e a e' a', s.size ≤ a ∧ r = .bad e a ∧ r' = .bad e' a')
theorem Rel.ok {m : Nat} {s : ByteArray} {α : Type} (v : α) {q : Nat} (h : q ≤ s.size) : Rel m s (.ok v q) (.ok v (m + q)) := .inl ⟨v, q, h, rfl, rfl⟩
theorem Rel.bad {m : Nat} {s : ByteArray} {α : Type} (e : Int) {a : Nat} (h : a < s.size) : Rel m s (.bad e a : PR α) (.bad e (m + a)) := .inr (.inl ⟨e, a, h, rfl, rfl⟩)
theorem Rel.far {m : Nat} {s : ByteArray} {α : Type} (e e' : Int) {a : Nat} (a' : Nat) (h : s.size ≤ a) : Rel m s (.bad e a : PR α) (.bad e' a') := .inr (.inr ⟨e, a, e', a', h, rfl, rfl⟩)
theorem Rel.fault {m : Nat} {s : ByteArray} {α : Type} (e : Int) (a : Nat) : Rel m s (.bad e a : PR α) (.bad e (m + a)) := by
  by_cases h : a < s.size
  · exact .bad e h
  · exact .far e e (m + a) (by omega)

theorem Sh.want {m : Nat} {s s' : ByteArray} (h : Sh m s s') {p : Nat} (hp : p ≤ s.size) (c : UInt8) (l : List UInt8) (hl : solid (c :: l) = true) : Rel m s (want s p (c :: l)) (want s' (m + p) (c :: l)) := by
  rcases h.skip _ p rfl hp with ⟨h1, h2⟩ | ⟨h1, h2⟩
  · rw [Txt.want, Txt.want, h2, h.starts _ _ hl, h.common _ _ hl]
    split
    · rename_i hst
      have := starts_le (by omega) hst
      rw [Nat.add_assoc]; exact .ok _ this
    · rw [Nat.add_assoc]; exact .fault _ _
  · rw [Txt.want, Txt.want, h2, h1, starts_end (Nat.le_refl _), starts_end (Nat.le_refl _)]
    exact .far _ _ _ (by omega)

theorem Sh.extract {m : Nat} {s s' : ByteArray} (h : Sh m s s') {p q : Nat} (hq : q ≤ s.size) : s'.extract (m + p) (m + q) = s.extract p q := by
  have e : (s'.extract (m + p) (m + q)).data.toList = (s.extract p q).data.toList := by
    simp only [ByteArray.data_extract, Array.toList_extract, List.extract]
    apply List.ext_getElem?
    intro i
    rw [show m + q - (m + p) = q - p by omega, List.getElem?_take, List.getElem?_take]
    split
    · rw [List.getElem?_drop, List.getElem?_drop, ← at?_list, ← at?_list, Nat.add_assoc, h.same _ (by omega)]
    · rfl
  apply ByteArray.ext
  exact Array.toList_inj.1 e
theorem Sh.cut {m : Nat} {s s' : ByteArray} (h : Sh m s s') {p q : Nat} (hq : q ≤ s.size) : cut s' (m + p) (m + q) = cut s p q := by rw [Txt.cut, h.extract hq]; rfl

theorem Sh.whole {m : Nat} {s s' : ByteArray} (h : Sh m s s') {p : Nat} (hp : p ≤ s.size) : Rel m s (whole s p) (whole s' (m + p)) := by
  unfold Txt.whole
  simp only
  rw [decide_eq_decide.2 (h.at_iff p 45 rfl)]
  have hq : (if decide (at? s p = some 45) = true then p + 1 else p) ≤ s.size := by
    split
    · rename_i hx
      obtain ⟨hlt, -⟩ := at?_some (of_decide_eq_true hx)
      omega
    · exact hp
  have hpq : p ≤ (if decide (at? s p = some 45) = true then p + 1 else p) := by split <;> omega
  rw [show (if decide (at? s p = some 45) = true then m + p + 1 else m + p) = m + (if decide (at? s p = some 45) = true then p + 1 else p) by split <;> omega]
  generalize (if decide (at? s p = some 45) = true then p + 1 else p) = q at *
  rw [h.digits hq]
  have hr := digitsEnd_le hq
  have hrq := le_digitsEnd s q
  generalize digitsEnd s q = r at *
  rw [h.cut hr]
  by_cases e : r = q
  · rw [if_pos e, if_pos (show m + r = m + q by omega)]; exact .fault _ _
  · rw [if_neg e, if_neg (show ¬ m + r = m + q by omega)]
    split
    · exact .bad _ (by omega)
    · exact .ok _ hr

theorem Sh.ident {m : Nat} {s s' : ByteArray} (h : Sh m s s') {p st : Nat} (kind : Int) (hp : p ≤ s.size) (hst : st < s.size) : Rel m s (ident s kind st p) (ident s' kind (m + st) (m + p)) := by
  unfold Txt.ident
  simp only
  rcases h.skip _ p rfl hp with ⟨h1, h2⟩ | ⟨h1, h2⟩
  · rw [h2]
    have hz : Txt.skip s p ≤ s.size := by omega
    generalize Txt.skip s p = z at *
    rw [h.digits hz]
    have hr := digitsEnd_le hz
    generalize digitsEnd s z = r at *
    rw [h.cut hr]
    by_cases e : r = z
    · rw [if_pos e, if_pos (show m + r = m + z by omega)]; exact .fault _ _
    · rw [if_neg e, if_neg (show ¬ m + r = m + z by omega)]
      split
      · exact .bad _ hst
      · rcases h.want hr 62 [] rfl with ⟨v, q, hq, e1, e2⟩ | ⟨e, a, ha, e1, e2⟩ | ⟨e, a, e', a', ha, e1, e2⟩ <;> rw [e1, e2]
        · exact .ok _ hq
        · exact .bad _ ha
        · exact .far _ _ _ ha
  · rw [h1, h2]
    have e1 : digitsEnd s s.size = s.size := span_end (Nat.le_refl _)
    have e2 : digitsEnd s' s'.size = s'.size := span_end (Nat.le_refl _)
    rw [e1, e2, if_pos rfl, if_pos rfl]
    exact .far _ _ _ (Nat.le_refl _)

theorem Sh.quotedF_far {m : Nat} {s s' : ByteArray} (h : Sh m s s') : ∀ (k p : Nat) (acc : List UInt8), s.size ≤ p → ∃ e a, quotedF s' k (m + p) acc = .bad e a := by
  intro k
  induction k with
  | zero => intro p acc hp; exact ⟨_, _, rfl⟩
  | succ k ih =>
    intro p acc hp
    rw [quotedF]
    cases hc : at? s' (m + p) with
    | none => exact ⟨_, _, rfl⟩
    | some c =>
      have hb := h.behind p c hp hc
      simp only
      rw [if_neg (by rintro rfl; cases hb), if_neg (by rintro rfl; cases hb), Nat.add_assoc]
      exact ih (p + 1) _ (by omega)
theorem Sh.quotedF {m : Nat} {s s' : ByteArray} (h : Sh m s s') : ∀ (k k' p : Nat) (acc : List UInt8), s.size - p < k → s'.size - (m + p) < k' → Rel m s (quotedF s k p acc) (quotedF s' k' (m + p) acc) := by
  intro k
  induction k with
  | zero => intro k' p acc h1; omega
  | succ k ih =>
    intro k' p acc h1 h2
    by_cases hp : p < s.size
    · obtain ⟨k', rfl⟩ : ∃ j, k' = j + 1 := ⟨k' - 1, by omega⟩
      have hsz := h.size
      rw [Txt.quotedF, Txt.quotedF, h.same p hp, at?_lt hp]
      simp only
      split
      · rw [Nat.add_assoc]; exact .ok _ (by omega)
      · split
        · by_cases hp1 : p + 1 < s.size
          · rw [Nat.add_assoc, h.same _ hp1, at?_lt hp1]
            simp only
            split
            · rw [Nat.add_assoc]; exact ih _ _ _ (by omega) (by omega)
            · exact .bad _ hp
          · rw [at?_ge (s := s) (p := p + 1) (by omega)]
            simp only
            rw [Nat.add_assoc]
            cases hd : at? s' (m + (p + 1)) with
            | none => exact .far _ _ _ (Nat.le_refl _)
            | some d =>
              have hb := h.behind _ d (by omega) hd
              simp only
              rw [if_neg (by rintro (rfl | rfl) <;> cases hb)]
              exact .far _ _ _ (Nat.le_refl _)
        · rw [Nat.add_assoc]; exact ih _ _ _ (by omega) (by omega)
    · obtain ⟨e', a', e2⟩ := h.quotedF_far k' p acc (by omega)
      rw [e2, Txt.quotedF, at?_ge (by omega)]
      exact .far _ _ _ (Nat.le_refl _)
theorem Sh.quoted {m : Nat} {s s' : ByteArray} (h : Sh m s s') {p : Nat} (hp : p < s.size) : Rel m s (quoted s p) (quoted s' (m + p)) := by
  have := h.size
  rw [Txt.quoted, Txt.quoted, Nat.add_assoc]
  exact h.quotedF _ _ _ _ (by omega) (by omega)

theorem bytesF_end {s : ByteArray} {k p : Nat} {acc : List UInt8} (hp : s.size ≤ p) : bytesF s k p acc = .bad 70 p := by
  cases k with
  | zero => rfl
  | succ k =>
    rw [bytesF]
    rw [skip_end hp, show digitsEnd s p = p from span_end hp, if_pos rfl]
theorem bytesF_skip (s : ByteArray) (k p : Nat) (acc : List UInt8) : bytesF s (k + 1) p acc = bytesF s (k + 1) (skip s p) acc := by
  have e : skip s (skip s p) = skip s p := by
    have : ∀ (d p : Nat), s.size - p = d → skip s (skip s p) = skip s p := by
      intro d
      induction d with
      | zero => intro p hd; rw [skip_end (s := s) (p := p) (by omega), skip_end (by omega)]
      | succ d ih =>
        intro p hd
        have hlt : p < s.size := by omega
        cases hc : blankB s[p] with
        | true => rw [show skip s p = skip s (p + 1) from span_yes hlt hc]; exact ih _ (by omega)
        | false => rw [show skip s p = p from span_no hlt hc, show skip s p = p from span_no hlt hc]
    exact this _ p rfl
  rw [bytesF, bytesF, e]
theorem Sh.bytesF {m : Nat} {s s' : ByteArray} (h : Sh m s s') : ∀ (k k' p : Nat) (acc : List UInt8), s.size - p < k → s'.size - (m + p) < k' → p ≤ s.size → Rel m s (bytesF s k p acc) (bytesF s' k' (m + p) acc) := by
  intro k
  induction k with
  | zero => intro k' p acc h1; omega
  | succ k ih =>
    intro k' p acc h1 h2 hp
    obtain ⟨k', rfl⟩ : ∃ j, k' = j + 1 := ⟨k' - 1, by omega⟩
    have hsz := h.size
    have hsk := le_skip s p
    rw [bytesF_skip s, bytesF_skip s']
    rcases h.skip _ p rfl hp with ⟨g1, g2⟩ | ⟨g1, g2⟩
    · rw [← bytesF_skip s, ← bytesF_skip s', Txt.bytesF, Txt.bytesF, g2]
      have hz : Txt.skip s p ≤ s.size := by omega
      generalize Txt.skip s p = z at *
      rw [h.digits hz]
      have hr := digitsEnd_le hz
      have hrz := le_digitsEnd s z
      generalize digitsEnd s z = r at *
      rw [h.cut hr]
      by_cases e : r = z
      · rw [if_pos e, if_pos (show m + r = m + z by omega)]; exact .fault _ _
      · rw [if_neg e, if_neg (show ¬ m + r = m + z by omega)]
        split
        · exact .bad _ g1
        · have hsr := le_skip s r
          rcases h.skip _ r rfl hr with ⟨f1, f2⟩ | ⟨f1, f2⟩
          · rw [f2]
            by_cases e44 : at? s (Txt.skip s r) = some 44
            · rw [if_pos e44, if_pos ((h.at_iff _ _ rfl).2 e44), Nat.add_assoc]
              exact ih _ _ _ (by omega) (by omega) (by omega)
            · rw [if_neg e44, if_neg fun x => e44 ((h.at_iff _ _ rfl).1 x)]
              rcases h.want (show Txt.skip s r ≤ s.size by omega) 62 [62] rfl with ⟨v, q, hq, e1, e2⟩ | ⟨e, a, ha, e1, e2⟩ | ⟨e, a, e', a', ha, e1, e2⟩ <;> rw [e1, e2]
              · exact .ok _ hq
              · exact .bad _ ha
              · exact .far _ _ _ ha
          · rw [f1, f2, at?_ge (Nat.le_refl _), at?_ge (Nat.le_refl _), want_end (Nat.le_refl _), want_end (Nat.le_refl _)]
            simp only [reduceCtorEq, if_false]
            exact .far _ _ _ (Nat.le_refl _)
    · rw [g1, g2, bytesF_end (Nat.le_refl _), bytesF_end (Nat.le_refl _)]
      exact .far _ _ _ (Nat.le_refl _)
theorem Sh.binBytes {m : Nat} {s s' : ByteArray} (h : Sh m s s') {p : Nat} (hp : p ≤ s.size) : Rel m s (binBytes s p) (binBytes s' (m + p)) := by
  have hsz := h.size
  unfold Txt.binBytes
  simp only
  rcases h.skip _ p rfl hp with ⟨g1, g2⟩ | ⟨g1, g2⟩
  · rw [g2]
    generalize Txt.skip s p = z at *
    by_cases e34 : at? s z = some 34
    · rw [if_pos e34, if_pos ((h.at_iff _ _ rfl).2 e34)]
      rcases h.quoted g1 with ⟨v, q, hq, e1, e2⟩ | ⟨e, a, ha, e1, e2⟩ | ⟨e, a, e', a', ha, e1, e2⟩ <;> rw [e1, e2] <;> simp only
      · rcases h.want hq 62 [62] rfl with ⟨v, q, hq, e1, e2⟩ | ⟨e, a, ha, e1, e2⟩ | ⟨e, a, e', a', ha, e1, e2⟩ <;> rw [e1, e2]
        · exact .ok _ hq
        · exact .bad _ ha
        · exact .far _ _ _ ha
      · exact .bad _ ha
      · exact .far _ _ _ ha
    · rw [if_neg e34, if_neg fun x => e34 ((h.at_iff _ _ rfl).1 x), h.starts _ _ rfl]
      split
      · rename_i hst
        have := starts_le (by omega) hst
        rw [Nat.add_assoc]; exact .ok _ this
      · exact h.bytesF _ _ _ _ (by omega) (by omega) (by omega)
  · rw [g1, g2, at?_ge (Nat.le_refl _), at?_ge (Nat.le_refl _), starts_end (Nat.le_refl _), starts_end (Nat.le_refl _), bytesF_end (Nat.le_refl _), bytesF_end (Nat.le_refl _)]
    simp only [reduceCtorEq, if_false, Bool.false_eq_true]
    exact .far _ _ _ (Nat.le_refl _)
theorem Sh.binary {m : Nat} {s s' : ByteArray} (h : Sh m s s') {p st : Nat} (hp : p ≤ s.size) (hst : st < s.size) : Rel m s (binary s st p) (binary s' (m + st) (m + p)) := by
  unfold Txt.binary
  rcases h.binBytes hp with ⟨v, q, hq, e1, e2⟩ | ⟨e, a, ha, e1, e2⟩ | ⟨e, a, e', a', ha, e1, e2⟩ <;> rw [e1, e2] <;> simp only
  · split
    · exact .bad _ hst
    · exact .ok _ hq
  · exact .bad _ ha
  · exact .far _ _ _ ha
end Go.Proofs.YtejpdfenejbjdaaGreatDoor.Txt

namespace Go.Proofs.YtejpdfenejbjdaaGreatDoor.Txt
set_option linter.unusedVariables false
set_option linter.unusedSimpArgs false

theorem get_get {s : ByteArray} {p : Nat} (hp : p < s.size) : s.get! p = s[p] := by
  obtain ⟨a⟩ := s
  have h' : p < a.size := hp
  show a[p]! = a[p]
  rw [getElem!_pos a p h']
theorem Sh.get! {m : Nat} {s s' : ByteArray} (h : Sh m s s') (p : Nat) (hp : p < s.size) : s'.get! (m + p) = s.get! p := by
  obtain ⟨h', e⟩ := h.get p hp
  rw [get_get hp, get_get h', e]
theorem blank_cont {c : UInt8} (h : blankB c = true) : (c.toNat / 64 == 2) = false := by rcases blank_cases h with rfl | rfl | rfl | rfl <;> rfl
theorem Sh.cont {m : Nat} {s s' : ByteArray} (h : Sh m s s') (p : Nat) : (decide (m + p < s'.size) && (s'.get! (m + p)).toNat / 64 == 2) = (decide (p < s.size) && (s.get! p).toNat / 64 == 2) := by
  by_cases hp : p < s.size
  · obtain ⟨h', -⟩ := h.get p hp
    rw [h.get! p hp, decide_eq_true hp, decide_eq_true h']
  · rw [decide_eq_false hp, Bool.false_and]
    by_cases h' : m + p < s'.size
    · rw [get_get h', blank_cont (h.far p (by omega) h'), Bool.and_false]
    · rw [decide_eq_false h', Bool.false_and]
theorem Sh.decode {m : Nat} {s s' : ByteArray} (h : Sh m s s') (p : Nat) (hp : p < s.size) : Utf8.decode s' (m + p) = Utf8.decode s p := by
  have v0 := h.get! p hp
  have c1 := h.cont (p + 1)
  have c2 := h.cont (p + 2)
  have c3 := h.cont (p + 3)
  have v1 := h.get! (p + 1)
  have v2 := h.get! (p + 2)
  have v3 := h.get! (p + 3)
  unfold Utf8.decode
  simp only [Nat.add_zero, Nat.add_assoc] at *
  rw [c1, c2, c3, v0]
  by_cases h1 : p + 1 < s.size
  · rw [v1 h1]
    by_cases h2 : p + 2 < s.size
    · rw [v2 h2]
      by_cases h3 : p + 3 < s.size
      · rw [v3 h3]
      · simp [h3]
    · have h3 : ¬ p + 3 < s.size := by omega
      simp [h2, h3]
  · have h2 : ¬ p + 2 < s.size := by omega
    have h3 : ¬ p + 3 < s.size := by omega
    simp [h1, h2, h3]
theorem decode_pos (s : ByteArray) (p : Nat) (h : p < s.size) : 1 ≤ (Utf8.decode s p).2 := by
  by_cases ha : (s[p]'h).toNat < 128
  · rw [decode_ascii s p h ha]; exact Nat.le_refl _
  · exact (decode_high s p h (by omega)).2
theorem decode_blank {s : ByteArray} {p : Nat} (hp : p < s.size) (h : blankB s[p] = true) : Utf8.decode s p = (s[p].toNat, 1) :=
  decode_ascii s p hp (by rcases blank_cases h with e | e | e | e <;> rw [e] <;> decide)

/-- The state, moved. -/
def AS.sh (m : Nat) (x : AS) : AS := { x with p := m + x.p }
theorem putA_sh (m : Nat) (x : AS) (n : Nat) : putA (x.sh m) n = (putA x n).sh m := by
  unfold putA AS.sh
  split <;> rfl
theorem digVal_blank (base : Nat) {c : UInt8} (h : blankB c = true) : digVal base c = none := by rcases blank_cases h with rfl | rfl | rfl | rfl <;> rfl
theorem Sh.dig {m : Nat} {s s' : ByteArray} (h : Sh m s s') (base p : Nat) : (at? s' (m + p)).bind (digVal base) = (at? s p).bind (digVal base) := by
  by_cases hp : p < s.size
  · rw [h.same p hp]
  · rw [at?_ge (s := s) (by omega)]
    cases hc : at? s' (m + p) with
    | none => rfl
    | some c => exact digVal_blank base (h.behind p c (by omega) hc)
theorem Sh.digitsF {m : Nat} {s s' : ByteArray} (h : Sh m s s') (base : Nat) : ∀ (k p n j : Nat), digitsF s' base k (m + p) n j = ((digitsF s base k p n j).1, (digitsF s base k p n j).2.1, m + (digitsF s base k p n j).2.2) := by
  intro k
  induction k with
  | zero => intro p n j; rfl
  | succ k ih =>
    intro p n j
    rw [Txt.digitsF, Txt.digitsF, h.dig]
    cases (at? s p).bind (digVal base) with
    | none => rfl
    | some d => simp only; rw [Nat.add_assoc]; exact ih _ _ _
theorem digitsF_fuel (s : ByteArray) (base : Nat) : ∀ (k k' p n j : Nat), s.size - p ≤ k → s.size - p ≤ k' → digitsF s base k p n j = digitsF s base k' p n j := by
  intro k
  induction k with
  | zero =>
    intro k' p n j h1 h2
    cases k' with
    | zero => rfl
    | succ k' => rw [digitsF, digitsF, at?_ge (by omega)]; rfl
  | succ k ih =>
    intro k' p n j h1 h2
    cases k' with
    | zero => rw [digitsF, digitsF, at?_ge (by omega)]; rfl
    | succ k' =>
      rw [digitsF, digitsF]
      cases (at? s p).bind (digVal base) with
      | none => rfl
      | some d => exact ih _ _ _ _ (by omega) (by omega)
theorem digitsF_ge (s : ByteArray) (base : Nat) : ∀ (k p n j : Nat), p ≤ (digitsF s base k p n j).2.2 := by
  intro k
  induction k with
  | zero => intro p n j; exact Nat.le_refl _
  | succ k ih =>
    intro p n j
    rw [digitsF]
    cases (at? s p).bind (digVal base) with
    | none => exact Nat.le_refl _
    | some d => exact Nat.le_trans (Nat.le_succ _) (ih _ _ _)
theorem putA_p (x : AS) (n : Nat) : (putA x n).p = x.p := by unfold putA; split <;> rfl
theorem digitsA_ge {s : ByteArray} {x y : AS} {base least most : Nat} (h : digitsA s x base least most = some y) : x.p ≤ y.p := by
  unfold digitsA at h
  simp only at h
  split at h
  · cases h
  · cases h; rw [putA_p]; exact digitsF_ge _ _ _ _ _ _
theorem Sh.digitsA {m : Nat} {s s' : ByteArray} (h : Sh m s s') (x : AS) (base least most : Nat) : digitsA s' (x.sh m) base least most = (digitsA s x base least most).map (AS.sh m) := by
  unfold Txt.digitsA
  simp only
  rw [show (x.sh m).p = m + x.p from rfl, h.digitsF]
  split
  · rfl
  · simp only [Option.map_some]
    rw [← putA_sh]; rfl
theorem digitsA_fuel (s : ByteArray) (x : AS) (base least : Nat) {k k' : Nat} (h1 : s.size - x.p ≤ k) (h2 : s.size - x.p ≤ k') : digitsA s x base least k = digitsA s x base least k' := by
  unfold digitsA
  rw [digitsF_fuel s base k k' x.p 0 0 h1 h2]
theorem Sh.hexA {m : Nat} {s s' : ByteArray} (h : Sh m s s') (x : AS) : hexA s' (x.sh m) = (hexA s x).map (AS.sh m) := by
  unfold Txt.hexA
  rw [show (x.sh m).p = m + x.p from rfl]
  by_cases e : at? s x.p = some 123
  · rw [if_pos e, if_pos ((h.at_iff _ _ rfl).2 e)]
    have hsz := h.size
    rw [show ({ x.sh m with p := m + x.p + 1 } : AS) = AS.sh m { x with p := x.p + 1 } from rfl, h.digitsA, digitsA_fuel s { x with p := x.p + 1 } 16 1 (k := s'.size) (k' := s.size) (by simp only; omega) (by simp only; omega)]
    cases Txt.digitsA s { x with p := x.p + 1 } 16 1 s.size with
    | none => rfl
    | some y =>
      simp only [Option.map_some]
      rw [show (AS.sh m y).p = m + y.p from rfl]
      by_cases e2 : at? s y.p = some 125
      · rw [if_pos e2, if_pos ((h.at_iff _ _ rfl).2 e2)]; rfl
      · rw [if_neg e2, if_neg fun z => e2 ((h.at_iff _ _ rfl).1 z)]; rfl
  · rw [if_neg e, if_neg fun z => e ((h.at_iff _ _ rfl).1 z)]
    exact h.digitsA _ _ _ _
theorem Sh.controlA {m : Nat} {s s' : ByteArray} (h : Sh m s s') (x : AS) : controlA s' (x.sh m) = (controlA s x).map (AS.sh m) := by
  unfold Txt.controlA
  by_cases hp : x.p < s.size
  · rw [show (x.sh m).p = m + x.p from rfl, h.same _ hp, at?_lt hp]
    simp only
    generalize (if smallB s[x.p] = true then s[x.p].toNat - 32 else s[x.p].toNat) = d
    split
    · rfl
    · simp only [Option.map_some]
      rw [← putA_sh]; rfl
  · rw [at?_ge (s := s) (by omega), show (x.sh m).p = m + x.p from rfl]
    cases hc : at? s' (m + x.p) with
    | none => rfl
    | some c =>
      have hb := h.behind _ c (by omega) hc
      simp only [Option.map_none]
      rw [small_blank c hb, if_pos]
      rcases blank_cases hb with rfl | rfl | rfl | rfl <;> decide
theorem hexA_ge {s : ByteArray} {x y : AS} (h : hexA s x = some y) : x.p ≤ y.p := by
  unfold hexA at h
  split at h
  · split at h
    · cases h
    · rename_i hy
      split at h
      · cases h
        have := digitsA_ge hy
        simp only at this ⊢; omega
      · cases h
  · exact digitsA_ge h
theorem controlA_ge {s : ByteArray} {x y : AS} (h : controlA s x = some y) : x.p ≤ y.p := by
  unfold controlA at h
  split at h
  · cases h
  · rename_i c _
    simp only at h
    generalize (if smallB c = true then c.toNat - 32 else c.toNat) = d at h
    split at h
    · cases h
    · cases h; rw [putA_p]; simp
theorem specialA_ge {s : ByteArray} {x y : AS} (h : specialA s x = some y) : x.p ≤ y.p := by
  unfold specialA at h
  simp only at h
  split at h
  · split at h
    · cases h
    · split at h
      · have := hexA_ge h; simp only at this; omega
      · split at h
        · have := controlA_ge h; simp only at this; omega
        · split at h
          · exact digitsA_ge h
          · cases h; simp
  · cases h
theorem Sh.specialA {m : Nat} {s s' : ByteArray} (h : Sh m s s') (x : AS) (hp : x.p < s.size) : specialA s' (x.sh m) = (specialA s x).map (AS.sh m) := by
  have hsz := h.size
  unfold Txt.specialA
  simp only
  rw [if_pos hp, if_pos (show (x.sh m).p < s'.size by show m + x.p < _; omega), show (x.sh m).p = m + x.p from rfl, h.decode _ hp]
  split
  · rfl
  · split
    · exact h.hexA { x with p := x.p + 1 }
    · split
      · exact h.controlA { x with p := x.p + 1 }
      · split
        · exact h.digitsA _ _ _ _
        · rw [Nat.add_assoc]; rfl

theorem Sh.quotedAF_far {m : Nat} {s s' : ByteArray} (h : Sh m s s') : ∀ (k : Nat) (x : AS), m + s.size ≤ x.p → quotedAF s' k x = none := by
  intro k
  induction k with
  | zero => intro x hx; rfl
  | succ k ih =>
    intro x hx
    rw [quotedAF]
    split
    · rename_i hlt
      obtain ⟨q, hq⟩ : ∃ q, x.p = m + q := ⟨x.p - m, by omega⟩
      have hb : blankB s'[x.p] = true := by
        have := h.far q (by omega) (by omega)
        simp only [hq]; exact this
      have hd := decode_blank hlt hb
      simp only [hd]
      rw [if_neg (by rintro ⟨e, -⟩; rcases blank_cases hb with e' | e' | e' | e' <;> rw [e'] at e <;> revert e <;> decide)]
      rw [if_neg (by rcases blank_cases hb with e | e | e | e <;> rw [e] <;> decide), if_neg (by rcases blank_cases hb with e | e | e | e <;> rw [e] <;> decide)]
      exact ih _ (by simp only; omega)
    · rfl
theorem Sh.quotedAF {m : Nat} {s s' : ByteArray} (h : Sh m s s') : ∀ (k k' : Nat) (x : AS), s.size - x.p < k → s'.size - (m + x.p) < k' → quotedAF s' k' (x.sh m) = (quotedAF s k x).map (AS.sh m) := by
  intro k
  induction k with
  | zero => intro k' x h1; omega
  | succ k ih =>
    intro k' x h1 h2
    have hsz := h.size
    obtain ⟨k', rfl⟩ : ∃ j, k' = j + 1 := ⟨k' - 1, by omega⟩
    by_cases hp : x.p < s.size
    · have hpos := decode_pos s x.p hp
      rw [Txt.quotedAF, Txt.quotedAF, if_pos hp, if_pos (show (x.sh m).p < s'.size by show m + x.p < _; omega), show (x.sh m).p = m + x.p from rfl, h.decode _ hp]
      simp only
      split
      · rfl
      · split
        · rw [Nat.add_assoc]; rfl
        · split
          · rename_i h92
            rw [show ({ x.sh m with p := m + x.p + (Utf8.decode s x.p).2 } : AS) = AS.sh m { x with p := x.p + (Utf8.decode s x.p).2 } by unfold AS.sh; simp only [Nat.add_assoc]]
            by_cases hp1 : x.p + (Utf8.decode s x.p).2 < s.size
            · rw [h.specialA _ hp1]
              cases hz : Txt.specialA s { x with p := x.p + (Utf8.decode s x.p).2 } with
              | none => rfl
              | some y =>
                have := specialA_ge hz
                simp only at this
                simp only [Option.map_some]
                exact ih _ _ (by omega) (by omega)
            · have e1 : Txt.specialA s { x with p := x.p + (Utf8.decode s x.p).2 } = none := by
                unfold Txt.specialA
                simp only
                rw [if_neg hp1]
              rw [e1]
              cases hz : Txt.specialA s' (AS.sh m { x with p := x.p + (Utf8.decode s x.p).2 }) with
              | none => rfl
              | some y =>
                have := specialA_ge hz
                simp only [AS.sh] at this
                simp only [Option.map_none]
                exact h.quotedAF_far _ _ (by omega)
          · rw [show ({ x.sh m with p := m + x.p + (Utf8.decode s x.p).2, out := (x.sh m).out ++ (Utf8.encode ((Utf8.decode s x.p).1 : Int)).data.toList } : AS) = AS.sh m { x with p := x.p + (Utf8.decode s x.p).2, out := x.out ++ (Utf8.encode ((Utf8.decode s x.p).1 : Int)).data.toList } by unfold AS.sh; simp only [Nat.add_assoc]]
            exact ih _ _ (by simp only; omega) (by simp only; omega)
    · rw [h.quotedAF_far _ _ (by show m + s.size ≤ m + x.p; omega), Txt.quotedAF, if_neg hp]
      rfl
theorem Sh.runEnd {m : Nat} {s s' : ByteArray} (h : Sh m s s') {p : Nat} (hp : p < s.size) : runEnd s' (m + p) = m + runEnd s p ∧ runEnd s p ≤ s.size := by
  obtain ⟨h', e⟩ := h.get p hp
  unfold Txt.runEnd
  rw [dif_pos hp, dif_pos h', e]
  split
  · exact ⟨h.span insideB inside_blank _ p rfl (by omega), span_le (by omega)⟩
  · exact ⟨rfl, by omega⟩
theorem Sh.scan {m : Nat} {s s' : ByteArray} (h : Sh m s s') {p : Nat} (hp : p < s.size) : scan s' (m + p) = match scan s p with | .ok b q => .ok b (m + q) | .bad e a => .bad e (m + a) := by
  have hsz := h.size
  unfold Txt.scan
  by_cases e39 : at? s p = some 39
  · rw [if_pos e39, if_pos ((h.at_iff _ _ rfl).2 e39), show (⟨m + p + 1, [], false⟩ : AS) = AS.sh m ⟨p + 1, [], false⟩ by unfold AS.sh; simp only [Nat.add_assoc], h.quotedAF (s.size - p) (s'.size - (m + p)) ⟨p + 1, [], false⟩ (by simp only; omega) (by simp only; omega)]
    cases Txt.quotedAF s (s.size - p) ⟨p + 1, [], false⟩ with
    | none => rfl
    | some y =>
      simp only [Option.map_some, AS.sh]
      split <;> rfl
  · obtain ⟨h1, h2⟩ := h.runEnd hp
    rw [if_neg e39, if_neg fun z => e39 ((h.at_iff _ _ rfl).1 z), h1, h.cut h2, h.extract h2]
    by_cases e : Txt.runEnd s p = p ∨ reserved (Txt.cut s p (Txt.runEnd s p)) = true
    · rw [if_pos e, if_pos (by rcases e with e | e; exact .inl (by omega); exact .inr e)]
    · rw [if_neg e, if_neg (by intro z; apply e; rcases z with z | z; exact .inl (by omega); exact .inr z), show m + Txt.runEnd s p - (m + p) = Txt.runEnd s p - p by omega]
      split <;> rfl
end Go.Proofs.YtejpdfenejbjdaaGreatDoor.Txt
