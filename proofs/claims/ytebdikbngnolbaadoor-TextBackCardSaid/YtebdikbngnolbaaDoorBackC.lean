/- Plain law: what is printed of a right term is read as the term. -/
import Derived.Test.YtebdikbngnolbaaDoorBackA
namespace Go.Proofs.YtebdikbngnolbaaDoor.Txt
set_option linter.unusedVariables false
set_option linter.unusedSimpArgs false

/-- A number that a cell may hold. -/
def fits (c : Cl) : Prop := -9223372036854775808 ≤ c.n ∧ c.n ≤ 9223372036854775807
theorem empty_of {b : ByteArray} (h : b.size = 0) : b = .empty := by
  apply ByteArray.ext
  apply Array.eq_empty_of_size_eq_zero
  exact h
/-- The first sign of a printed term. -/
def lead (c : UInt8) : Prop := blankB c = false ∧ c ≠ 93 ∧ c ≠ 125
theorem itoa_lead (n : Int) : ∃ c l, Lib.itoa n = c :: l ∧ (c = 45 ∨ digitB c = true) := by
  unfold Lib.itoa
  split
  · exact ⟨45, _, rfl, .inl rfl⟩
  · have hd := dec_digit n.toNat
    cases hl : Lib.decDigits n.toNat with
    | nil => exact absurd hl (dec_ne _)
    | cons c l => rw [hl] at hd; exact ⟨c, l, rfl, .inr (hd c (by simp))⟩
theorem lead_digit {c : UInt8} (h : c = 45 ∨ digitB c = true) : lead c := by
  rcases h with rfl | h
  · exact ⟨rfl, by decide, by decide⟩
  · exact ⟨digit_solid h, (by rintro rfl; cases h), (by rintro rfl; cases h)⟩
theorem lead_small {c : UInt8} (h : c = 39 ∨ smallB c = true) : lead c := by
  rcases h with rfl | h
  · exact ⟨rfl, by decide, by decide⟩
  · refine ⟨?_, (by rintro rfl; cases h), (by rintro rfl; cases h)⟩
    cases hb : blankB c with
    | false => rfl
    | true => rw [small_blank c hb] at h; cases h
theorem quote_lead {b : ByteArray} (hb : atomOk b = true) : ∃ c l, (quote b).1 = c :: l ∧ (c = 39 ∨ smallB c = true) := by
  unfold quote
  rw [if_pos hb]
  by_cases hbare : bare b = true
  · rw [if_pos hbare]
    simp only [bare, Bool.and_eq_true, decide_eq_true_eq, Bool.not_eq_true'] at hbare
    obtain ⟨⟨⟨hne, hle⟩, hrun⟩, hres⟩ := hbare
    have hpos : 0 < b.size := by omega
    have hsm : smallB b[0] = true := by
      unfold runEnd at hrun
      rw [dif_pos hpos] at hrun
      split at hrun
      · assumption
      · omega
    cases hl : b.data.toList with
    | nil =>
      have h1 : b.data.toList.length = 0 := by rw [hl]; rfl
      have h2 : b.data.toList.length = b.size := by simp
      omega
    | cons c l =>
      refine ⟨c, l, rfl, .inr ?_⟩
      have e : b[0] = c := by
        have h1 : b[0] = b.data.toList[0]'(by rw [hl]; simp) := rfl
        rw [h1]; simp [hl]
      rw [← e]; exact hsm
  · rw [if_neg hbare]; exact ⟨39, _, rfl, .inl rfl⟩

theorem atomOk_of {c : Cl} (hc : cellE c = 0) (hk : c.kind = 2) : atomOk c.text = true := by
  have := (cell_ok hc).2.2.2.2.2.2.2.1 hk
  simp [atomOk, this.1, this.2]
theorem leaf_lead {c : Cl} (hc : cellE c = 0) (h7 : c.kind ≠ 7) : ∃ d l, leaf c = d :: l ∧ lead d := by
  have hcell := cell_ok hc
  unfold leaf
  by_cases h1 : c.kind = 1
  · rw [if_pos h1]
    obtain ⟨d, l, e, h⟩ := itoa_lead c.n
    exact ⟨d, l, e, lead_digit h⟩
  rw [if_neg h1]
  by_cases h2 : c.kind = 2
  · rw [if_pos h2]
    obtain ⟨d, l, e, h⟩ := quote_lead (atomOk_of hc h2)
    exact ⟨d, l, e, lead_small h⟩
  rw [if_neg h2]
  by_cases h3 : c.kind = 3
  · rw [if_pos h3]; exact ⟨35, _, rfl, rfl, by decide, by decide⟩
  rw [if_neg h3]
  by_cases h4 : c.kind = 4
  · rw [if_pos h4]; exact ⟨60, _, rfl, rfl, by decide, by decide⟩
  rw [if_neg h4]
  by_cases h6 : c.kind = 6
  · rw [if_pos h6]; exact ⟨91, _, rfl, rfl, by decide, by decide⟩
  rw [if_neg h6]
  by_cases h5 : c.kind = 5
  · rw [if_pos h5]; exact ⟨123, _, rfl, rfl, by decide, by decide⟩
  rw [if_neg h5]
  unfold shown
  split
  · exact ⟨60, _, rfl, rfl, by decide, by decide⟩
  · exact ⟨60, _, rfl, rfl, by decide, by decide⟩
theorem txt_lead {c : Cl} {k : Fo} (hc : cellE c = 0) : ∃ d l, Fo.txt c k = d :: l ∧ lead d := by
  unfold Fo.txt
  by_cases h7 : c.kind = 7
  · rw [if_pos h7]; exact ⟨91, _, rfl, rfl, by decide, by decide⟩
  rw [if_neg h7]
  by_cases h5 : c.kind = 5 ∧ c.n > 0
  · rw [if_pos h5]; exact ⟨123, _, rfl, rfl, by decide, by decide⟩
  rw [if_neg h5]
  exact leaf_lead hc h7

theorem starts2_no {s : ByteArray} {p : Nat} {c a b : UInt8} (h : at? s p = some c) (hc : c ≠ a) : starts s p [a, b] = false := by
  rw [Bool.eq_false_iff]
  intro x
  rw [(starts_cons.1 x).1] at h
  exact hc (Option.some.inj h).symm
/-- A cell that holds nothing is read back. -/
theorem leaf_read (he : EncAs) {s : ByteArray} {p k : Nat} {c : Cl} (hc : cellE c = 0) (hf : fits c) (h7 : c.kind ≠ 7) (h5 : ¬ (c.kind = 5 ∧ c.n > 0)) (h : starts s p (leaf c) = true) (hstop : Stop s (p + (leaf c).length)) :
    term (k + 1) s p = .ok [c] (p + (leaf c).length) := by
  have hcell := cell_ok hc
  have hc' : (⟨c.kind, c.n, c.text⟩ : Cl) = c := rfl
  unfold leaf at h hstop ⊢
  by_cases h1 : c.kind = 1
  · rw [if_pos h1] at h hstop ⊢
    have ht := empty_of (hcell.2.2.1 (by omega) (by omega))
    obtain ⟨d, l, e, hd⟩ := itoa_lead c.n
    have h0 : at? s p = some d := by rw [e] at h; exact (starts_cons.1 h).1
    rw [term, skip_at h0 (lead_digit hd).1, h0]
    simp only
    rw [if_neg (by rcases hd with rfl | hd; decide; rintro rfl; cases hd), if_pos hd, whole_itoa hf.1 hf.2 h hstop]
    rw [← hc', h1, ht]
  rw [if_neg h1] at h hstop ⊢
  by_cases h2 : c.kind = 2
  · rw [if_pos h2] at h hstop ⊢
    have hn := hcell.2.2.2.1 (by omega) (by omega) (by omega) (by omega)
    obtain ⟨hs, d, h0, hd⟩ := scan_quote he (atomOk_of hc h2) h hstop
    have hnd : ¬ (d = 45 ∨ digitB d = true) := by
      rcases hd with rfl | hd
      · decide
      · rintro (rfl | hx)
        · cases hd
        · simp only [smallB, digitB, Bool.and_eq_true, decide_eq_true_eq] at hd hx; omega
    rw [term, skip_at h0 (lead_small hd).1, h0]
    simp only
    rw [if_neg (by rcases hd with rfl | hd; decide; rintro rfl; cases hd), if_neg hnd, starts2_no h0 (by rcases hd with rfl | hd; decide; rintro rfl; cases hd)]
    simp only [Bool.false_eq_true, if_false]
    rw [if_neg (by rcases hd with rfl | hd; decide; rintro rfl; cases hd), if_neg (by rcases hd with rfl | hd; decide; rintro rfl; cases hd), if_neg (by rcases hd with rfl | hd; decide; rintro rfl; cases hd), if_neg (by rcases hd with rfl | hd; decide; rintro rfl; cases hd), hs]
    simp only
    rw [← hc', h2, hn]
  rw [if_neg h2] at h hstop ⊢
  by_cases h3 : c.kind = 3
  · rw [if_pos h3] at h ⊢
    have ht := empty_of (hcell.2.2.1 (by omega) (by omega))
    have hb := hcell.2.2.2.2.1 h3
    have hit : Lib.itoa c.n = Lib.decDigits c.n.toNat := by unfold Lib.itoa; rw [if_neg (by omega)]
    rw [hit] at h ⊢
    rw [show ([35, 82, 101, 102, 60] : List UInt8) ++ Lib.decDigits c.n.toNat ++ [62] = [35, 82, 101, 102] ++ ([60] ++ (Lib.decDigits c.n.toNat ++ [62])) by simp] at h ⊢
    obtain ⟨a, b⟩ := starts_append.1 h
    obtain ⟨b1, b2⟩ := starts_append.1 b
    have h0 := (starts_cons.1 a).1
    rw [term, skip_at h0 rfl, h0]
    simp only
    rw [if_neg (by decide), if_neg (by decide), starts2_no h0 (by decide)]
    simp only [Bool.false_eq_true, if_false]
    rw [if_neg (by decide), if_pos trivial, want_starts a rfl]
    simp only [List.length_cons, List.length_nil, Nat.zero_add, Nat.reduceAdd] at b1 b2 ⊢
    rw [want_starts b1 rfl]
    simp only [List.length_nil, Nat.zero_add]
    rw [ident_dec (by omega) (by unfold idMost; rw [if_pos rfl]; omega) b2, show ((c.n.toNat : Nat) : Int) = c.n by omega]
    simp only [List.length_append, List.length_cons, List.length_nil]
    rw [show p + 4 + 1 + ((Lib.decDigits c.n.toNat).length + 1) = p + (0 + 1 + 1 + 1 + 1 + (0 + 1 + ((Lib.decDigits c.n.toNat).length + (0 + 1)))) by omega, ← hc', h3, ht]
  rw [if_neg h3] at h hstop ⊢
  by_cases h4 : c.kind = 4
  · rw [if_pos h4] at h ⊢
    have ht := empty_of (hcell.2.2.1 (by omega) (by omega))
    have hb := hcell.2.2.2.2.2.1 h4
    have hit : Lib.itoa c.n = Lib.decDigits c.n.toNat := by unfold Lib.itoa; rw [if_neg (by omega)]
    rw [hit] at h ⊢
    rw [show ([60] : List UInt8) ++ Lib.decDigits c.n.toNat ++ [62] = 60 :: (Lib.decDigits c.n.toNat ++ [62]) by simp] at h ⊢
    obtain ⟨h0, b⟩ := starts_cons.1 h
    obtain ⟨d, hd0, hdd⟩ := dec_first (starts_append.1 b).1
    have hno : starts s p [60, 60] = false := by
      rw [Bool.eq_false_iff]
      intro x
      rw [(starts_cons.1 (starts_cons.1 x).2).1] at hd0
      cases hd0; cases hdd
    rw [term, skip_at h0 rfl, h0]
    simp only
    rw [if_neg (by decide), if_neg (by decide), hno]
    simp only [Bool.false_eq_true, if_false, if_true]
    rw [ident_dec (by omega) (by unfold idMost; rw [if_neg (by decide)]; omega) b, show ((c.n.toNat : Nat) : Int) = c.n by omega]
    simp only [List.length_append, List.length_cons, List.length_nil]
    rw [show p + 1 + ((Lib.decDigits c.n.toNat).length + 1) = p + ((Lib.decDigits c.n.toNat).length + (0 + 1) + 1) by omega, ← hc', h4, ht]
  rw [if_neg h4] at h hstop ⊢
  by_cases h6 : c.kind = 6
  · rw [if_pos h6] at h ⊢
    have ht := empty_of (hcell.2.2.1 (by omega) (by omega))
    have hn := hcell.2.2.2.1 (by omega) (by omega) (by omega) (by omega)
    obtain ⟨h0, b⟩ := starts_cons.1 h
    have b1 := (starts_cons.1 b).1
    rw [term, skip_at h0 rfl, h0]
    simp only
    rw [if_neg (by decide), if_neg (by decide), starts2_no h0 (by decide)]
    simp only [Bool.false_eq_true, if_false]
    rw [if_neg (by decide), if_neg (by decide), if_neg (by decide), if_pos trivial, skip_at b1 rfl, b, if_pos rfl, ← hc', h6, ht, hn]
    rfl
  rw [if_neg h6] at h hstop ⊢
  by_cases h5' : c.kind = 5
  · rw [if_pos h5'] at h ⊢
    have ht := empty_of (hcell.2.2.1 (by omega) (by omega))
    have hn : c.n = 0 := by have := hcell.2.2.2.2.2.2.1 h5'; omega
    obtain ⟨h0, b⟩ := starts_cons.1 h
    have b1 := (starts_cons.1 b).1
    rw [term, skip_at h0 rfl, h0]
    simp only
    rw [if_neg (by decide), if_neg (by decide), starts2_no h0 (by decide)]
    simp only [Bool.false_eq_true, if_false]
    rw [if_neg (by decide), if_neg (by decide), if_pos trivial, skip_at b1 rfl, b, if_pos rfl, ← hc', h5', ht, hn]
    rfl
  rw [if_neg h5'] at h hstop ⊢
  have h8 : c.kind = 8 := by omega
  have hn := hcell.2.2.2.1 (by omega) (by omega) (by omega) (by omega)
  obtain ⟨hb, h60⟩ := binary_shown c.text (hcell.2.2.2.2.2.2.2.2 h8) h
  have h0 := (starts_cons.1 h60).1
  rw [term, skip_at h0 rfl, h0]
  simp only
  rw [if_neg (by decide), if_neg (by decide), h60, if_pos rfl, hb, ← hc', h8, hn]

/-- What stands behind an element of a list is read. -/
def after (k : Nat) (s : ByteArray) (q : Nat) (acc t : List Cl) : PR (List Cl) :=
  if at? s (skip s q) = some 93 then .ok (acc ++ [⟨7, 0, .empty⟩] ++ t ++ [⟨6, 0, .empty⟩]) (skip s q + 1)
  else if at? s (skip s q) = some 124 then
    match term k s (skip s q + 1) with
    | .bad e a => .bad e a
    | .ok u r => match want s r [93] with
      | .bad e a => .bad e a
      | .ok _ z => .ok (acc ++ [⟨7, 0, .empty⟩] ++ t ++ u) z
  else match want s (skip s q) [44] with
    | .bad e a => .bad e a
    | .ok _ z => listL k s z (acc ++ [⟨7, 0, .empty⟩] ++ t)
theorem listL_after (k : Nat) (s : ByteArray) (p : Nat) (acc : List Cl) : listL (k + 1) s p acc = match term k s p with | .bad e a => .bad e a | .ok t q => after k s q acc t := by
  rw [listL]; rfl

def Fo.fit : Fo → Prop
  | .nil => True
  | .node c k r => fits c ∧ k.fit ∧ r.fit
theorem sh2_first {c : Cl} {k : Fo} : ∃ d l, (Fo.node c k .nil).sh 2 = d :: l ∧ insideB d = false := by
  rw [Fo.sh_2]
  split
  · exact ⟨44, _, rfl, rfl⟩
  · split
    · exact ⟨93, _, rfl, rfl⟩
    · exact ⟨124, _, rfl, rfl⟩
theorem len_nil {f : Fo} (h : f.len = 0) : f = .nil := by
  cases f with
  | nil => rfl
  | node _ _ _ => simp [Fo.len] at h
theorem len_one {f : Fo} (h : f.len = 1) : ∃ c k, f = .node c k .nil := by
  cases f with
  | nil => simp [Fo.len] at h
  | node c k r => exact ⟨c, k, by rw [len_nil (f := r) (by simpa [Fo.len] using h)]⟩

theorem tree_read (he : EncAs) (f : Fo) : (∀ (k : Nat) (s : ByteArray) (p : Nat) (acc : List Cl) (n : Nat), f.ok → f.fit → 1 ≤ f.len → n + f.len ≤ 255 → starts s p (f.sh 0 ++ [125]) = true → 2 * (s.size - p) + 3 ≤ k → tupleL k s p acc n = .ok (⟨5, ((n + f.len : Nat) : Int), .empty⟩ :: (acc ++ f.flat)) (p + ((f.sh 0).length + 1)))
    ∧ (∀ (k : Nat) (s : ByteArray) (p : Nat) (acc : List Cl), f.ok → f.fit → f.len = 2 → starts s p (f.sh 1) = true → 2 * (s.size - p) + 3 ≤ k → listL k s p acc = .ok (acc ++ ⟨7, 0, .empty⟩ :: f.flat) (p + (f.sh 1).length))
    ∧ (∀ (k : Nat) (s : ByteArray) (p : Nat) (acc t : List Cl), f.ok → f.fit → f.len = 1 → starts s p (f.sh 2) = true → 2 * (s.size - p) + 2 ≤ k → after k s p acc t = .ok (acc ++ [⟨7, 0, .empty⟩] ++ t ++ f.flat) (p + (f.sh 2).length))
    ∧ (∀ (c : Cl) (kids r : Fo), f = .node c kids r → ∀ (k : Nat) (s : ByteArray) (p : Nat), f.ok → f.fit → starts s p (Fo.txt c kids) = true → Stop s (p + (Fo.txt c kids).length) → 2 * (s.size - p) + 2 ≤ k → term k s p = .ok (c :: kids.flat) (p + (Fo.txt c kids).length)) := by
  induction f with
  | nil => exact ⟨fun _ _ _ _ _ _ _ h => by simp [Fo.len] at h, fun _ _ _ _ _ _ h => by simp [Fo.len] at h, fun _ _ _ _ _ _ _ h => by simp [Fo.len] at h, fun _ _ _ h => by cases h⟩
  | node c kids r ihk ihr =>
    obtain ⟨k0, k1, k2, -⟩ := ihk
    obtain ⟨r0, r1, r2, -⟩ := ihr
    have one : ∀ (k : Nat) (s : ByteArray) (p : Nat), cellE c = 0 → kids.len = Txt.kids c → kids.ok → fits c → kids.fit → starts s p (Fo.txt c kids) = true → Stop s (p + (Fo.txt c kids).length) → 2 * (s.size - p) + 2 ≤ k → term k s p = .ok (c :: kids.flat) (p + (Fo.txt c kids).length) := by
      intro k s p hc hk hko hf hkf h hstop hfuel
      have hcell := cell_ok hc
      have hc' : (⟨c.kind, c.n, c.text⟩ : Cl) = c := rfl
      obtain ⟨k, rfl⟩ : ∃ j, k = j + 1 := ⟨k - 1, by omega⟩
      unfold Fo.txt at h hstop ⊢
      by_cases h7 : c.kind = 7
      · rw [if_pos h7] at h ⊢
        have ht := empty_of (hcell.2.2.1 (by omega) (by omega))
        have hn := hcell.2.2.2.1 (by omega) (by omega) (by omega) (by omega)
        obtain ⟨h0, b⟩ := starts_cons.1 h
        obtain ⟨hlt, -⟩ := at?_some h0
        have hl2 : kids.len = 2 := by rw [hk, kids_7 h7]
        have hfirst : ∃ d, at? s (p + 1) = some d ∧ lead d := by
          cases kids with
          | nil => simp [Fo.len] at hl2
          | node a ka rr =>
            obtain ⟨d, l, e, hd⟩ := txt_lead (k := ka) hko.1
            rw [Fo.sh_1, e] at b
            exact ⟨d, (starts_cons.1 b).1, hd⟩
        obtain ⟨d, hd0, hdl⟩ := hfirst
        have hno : starts s (p + 1) [93] = false := by
          rw [Bool.eq_false_iff]
          intro x
          rw [(starts_cons.1 x).1] at hd0
          exact hdl.2.1 (Option.some.inj hd0).symm
        rw [term, skip_at h0 rfl, h0]
        simp only
        rw [if_neg (by decide), if_neg (by decide), starts2_no h0 (by decide)]
        simp only [Bool.false_eq_true, if_false]
        rw [if_neg (by decide), if_neg (by decide), if_neg (by decide), if_pos trivial, skip_at hd0 hdl.1, hno]
        simp only [Bool.false_eq_true, if_false]
        rw [k1 k s (p + 1) [] hko hkf hl2 b (by omega), List.nil_append, List.length_cons, show p + 1 + (kids.sh 1).length = p + ((kids.sh 1).length + 1) by omega, ← hc', h7, hn, ht]
      · rw [if_neg h7] at h hstop ⊢
        by_cases h5 : c.kind = 5 ∧ c.n > 0
        · rw [if_pos h5] at h ⊢
          have ht := empty_of (hcell.2.2.1 (by omega) (by omega))
          have hb := hcell.2.2.2.2.2.2.1 h5.1
          have hl : kids.len = c.n.toNat := by rw [hk, kids_5 h5.1 hb.1 hb.2]
          obtain ⟨h0, b⟩ := starts_cons.1 h
          obtain ⟨hlt, -⟩ := at?_some h0
          have hfirst : ∃ d, at? s (p + 1) = some d ∧ lead d := by
            cases kids with
            | nil => simp [Fo.len] at hl; omega
            | node a ka rr =>
              obtain ⟨d, l, e, hd⟩ := txt_lead (k := ka) hko.1
              rw [Fo.sh_0, e] at b
              exact ⟨d, (starts_cons.1 b).1, hd⟩
          obtain ⟨d, hd0, hdl⟩ := hfirst
          have hno : starts s (p + 1) [125] = false := by
            rw [Bool.eq_false_iff]
            intro x
            rw [(starts_cons.1 x).1] at hd0
            exact hdl.2.2 (Option.some.inj hd0).symm
          rw [term, skip_at h0 rfl, h0]
          simp only
          rw [if_neg (by decide), if_neg (by decide), starts2_no h0 (by decide)]
          simp only [Bool.false_eq_true, if_false]
          rw [if_neg (by decide), if_neg (by decide), if_pos trivial, skip_at hd0 hdl.1, hno]
          simp only [Bool.false_eq_true, if_false]
          rw [k0 k s (p + 1) [] 0 hko hkf (by omega) (by omega) b (by omega), List.nil_append, List.length_cons, List.length_append, List.length_cons, List.length_nil, show p + 1 + ((kids.sh 0).length + 1) = p + ((kids.sh 0).length + (0 + 1) + 1) by omega, show ((0 + kids.len : Nat) : Int) = c.n by omega]
          rw [show (⟨5, c.n, .empty⟩ : Cl) = c by rw [← hc', h5.1, ht]]
        · rw [if_neg h5] at h hstop ⊢
          have hl : kids.len = 0 := by
            by_cases e : c.kind = 5
            · have hb := hcell.2.2.2.2.2.2.1 e
              rw [hk, kids_5 e hb.1 hb.2]; omega
            · rw [hk, kids_0 h7 e]
          rw [len_nil hl, Fo.flat]
          exact leaf_read he hc hf h7 h5 h hstop
    have stop_next : ∀ {s : ByteArray} {q : Nat} {d : UInt8} {l : List UInt8}, starts s q (d :: l) = true → insideB d = false → Stop s q := fun h hd => Stop.at (starts_cons.1 h).1 hd
    have flat : (Fo.node c kids r).flat = (c :: kids.flat) ++ r.flat := by simp [Fo.flat]
    refine ⟨?_, ?_, ?_, ?_⟩
    · intro k s p acc n ⟨hc, hk, hko, hro⟩ ⟨hf, hkf, hrf⟩ _ hn h hfuel
      obtain ⟨k, rfl⟩ : ∃ j, k = j + 1 := ⟨k - 1, by omega⟩
      obtain ⟨d, l, etx, -⟩ := txt_lead (k := kids) hc
      have hpos : 1 ≤ (Fo.txt c kids).length := by rw [etx]; simp
      rw [Fo.sh_0] at h ⊢
      by_cases hr : r.len = 0
      · rw [if_pos hr, List.append_nil] at h ⊢
        obtain ⟨a, b⟩ := starts_append.1 h
        have b1 := (starts_cons.1 b).1
        rw [tupleL, one k s p hc hk hko hf hkf a (stop_next b rfl) (by omega)]
        simp only
        rw [skip_at b1 rfl, if_pos b1, if_neg (by simp only [Fo.len] at hn; omega), len_nil hr]
        simp only [Fo.len, Fo.flat, List.append_nil]
        rw [Nat.add_assoc]
      · rw [if_neg hr] at h ⊢
        rw [List.append_assoc, List.cons_append] at h
        obtain ⟨a, b⟩ := starts_append.1 h
        obtain ⟨b1, b2⟩ := starts_cons.1 b
        obtain ⟨hlt, -⟩ := at?_some b1
        rw [tupleL, one k s p hc hk hko hf hkf a (stop_next b rfl) (by omega)]
        simp only
        rw [skip_at b1 rfl, if_neg (by rw [b1]; intro x; cases x), want_starts (l := []) (starts_cons.2 ⟨b1, rfl⟩) rfl]
        simp only [List.length_nil, Nat.zero_add]
        rw [r0 k s _ _ (n + 1) hro hrf (by omega) (by simp only [Fo.len] at hn; omega) b2 (by omega)]
        rw [flat]
        simp only [Fo.len, List.length_append, List.length_cons, List.append_assoc]
        rw [show n + 1 + r.len = n + (r.len + 1) by omega, show p + (Fo.txt c kids).length + 1 + ((r.sh 0).length + 1) = p + ((Fo.txt c kids).length + ((r.sh 0).length + 1) + 1) by omega]
    · intro k s p acc ⟨hc, hk, hko, hro⟩ ⟨hf, hkf, hrf⟩ hl h hfuel
      obtain ⟨k, rfl⟩ : ∃ j, k = j + 1 := ⟨k - 1, by omega⟩
      have hrl : r.len = 1 := by simpa [Fo.len] using hl
      rw [Fo.sh_1] at h ⊢
      obtain ⟨a, b⟩ := starts_append.1 h
      have hst : Stop s (p + (Fo.txt c kids).length) := by
        obtain ⟨c2, k2', rfl⟩ := len_one hrl
        obtain ⟨d, l, e, hd⟩ := sh2_first (c := c2) (k := k2')
        rw [e] at b
        exact stop_next b hd
      rw [listL_after, one k s p hc hk hko hf hkf a hst (by omega)]
      simp only
      rw [r2 k s _ acc (c :: kids.flat) hro hrf hrl b (by omega), flat, List.length_append]
      simp [Nat.add_assoc]
    · intro k s p acc t ⟨hc, hk, hko, hro⟩ ⟨hf, hkf, hrf⟩ hl h hfuel
      have hrn : r = .nil := len_nil (by simpa [Fo.len] using hl)
      subst hrn
      have hcell := cell_ok hc
      have hc' : (⟨c.kind, c.n, c.text⟩ : Cl) = c := rfl
      rw [flat, show Fo.nil.flat = [] from rfl, List.append_nil]
      rw [Fo.sh_2] at h ⊢
      unfold after
      by_cases h7 : c.kind = 7
      · rw [if_pos h7] at h ⊢
        have ht := empty_of (hcell.2.2.1 (by omega) (by omega))
        have hn := hcell.2.2.2.1 (by omega) (by omega) (by omega) (by omega)
        obtain ⟨b1, b2⟩ := starts_cons.1 h
        obtain ⟨hlt, -⟩ := at?_some b1
        rw [skip_at b1 rfl, if_neg (by rw [b1]; intro x; cases x), if_neg (by rw [b1]; intro x; cases x), want_starts (l := []) (starts_cons.2 ⟨b1, rfl⟩) rfl]
        simp only [List.length_nil, Nat.zero_add]
        rw [k1 k s (p + 1) _ hko hkf (by rw [hk, kids_7 h7]) b2 (by omega), List.length_cons, show p + 1 + (kids.sh 1).length = p + ((kids.sh 1).length + 1) by omega]
        rw [show (⟨7, 0, .empty⟩ : Cl) = c by rw [← hc', h7, hn, ht]]
      · rw [if_neg h7] at h ⊢
        by_cases h6 : c.kind = 6
        · rw [if_pos h6] at h ⊢
          have ht := empty_of (hcell.2.2.1 (by omega) (by omega))
          have hn := hcell.2.2.2.1 (by omega) (by omega) (by omega) (by omega)
          have b1 := (starts_cons.1 h).1
          have hkn : kids = .nil := len_nil (by rw [hk, kids_0 h7 (by omega)])
          rw [skip_at b1 rfl, if_pos b1, hkn, Fo.flat, show (⟨6, 0, .empty⟩ : Cl) = c by rw [← hc', h6, hn, ht]]
          rfl
        · rw [if_neg h6] at h ⊢
          obtain ⟨b1, b2⟩ := starts_cons.1 h
          obtain ⟨hlt, -⟩ := at?_some b1
          obtain ⟨a, b⟩ := starts_append.1 b2
          rw [skip_at b1 rfl, if_neg (by rw [b1]; intro x; cases x), if_pos b1, one k s (p + 1) hc hk hko hf hkf a (stop_next b rfl) (by omega)]
          simp only
          rw [want_starts b rfl]
          simp only [List.length_nil, List.length_cons, List.length_append]
          rw [show p + 1 + (Fo.txt c kids).length + (0 + 1) = p + ((Fo.txt c kids).length + (0 + 1) + 1) by omega]
    · intro c' kids' r' heq k s p ⟨hc, hk, hko, hro⟩ ⟨hf, hkf, hrf⟩ h hstop hfuel
      cases heq
      exact one k s p hc hk hko hf hkf h hstop hfuel
theorem fit_of {f : Fo} (h : ∀ c ∈ f.flat, fits c) : f.fit := by
  induction f with
  | nil => trivial
  | node c k r ihk ihr => exact ⟨h c (by simp [Fo.flat]), ihk fun d hd => h d (by simp [Fo.flat, hd]), ihr fun d hd => h d (by simp [Fo.flat, hd])⟩

/-- A right term's text, and the term that is read where it stands. -/
theorem term_print (he : EncAs) {t : List Cl} (hr : (right t).1 = 0) (hf : ∀ c ∈ t, fits c) {r : List UInt8} (hp : (print t) = (r, 0)) :
    r.length ≤ 65536 ∧ r ≠ [] ∧ t.length ≤ 1024 ∧ ∀ (s : ByteArray) (p k : Nat), starts s p r = true → Stop s (p + r.length) → 2 * (s.size - p) + 2 ≤ k → term k s p = .ok t (p + r.length) := by
  obtain ⟨c, k, hc, hk, hko, rfl, hlen⟩ := right_tree hr
  unfold print at hp
  rw [if_neg (by omega)] at hp
  cases hF : printF (c :: k.flat) [] [] with
  | none => rw [hF] at hp; cases hp
  | some b =>
    rw [hF] at hp
    simp only [Prod.mk.injEq, and_true] at hp
    subst hp
    obtain ⟨h1, h2⟩ := printF_pr _ _ _ _ hF
    rw [List.nil_append, print_tree hc hk hko] at h1
    subst h1
    obtain ⟨d, l, e, -⟩ := txt_lead (k := k) hc
    refine ⟨h2, by rw [e]; simp, hlen, fun s p kk hs hst hfu => ?_⟩
    have hfit : (Fo.node c k .nil).fit := fit_of (by intro d hd; apply hf; simpa [Fo.flat] using hd)
    exact (tree_read he (.node c k .nil)).2.2.2 c k .nil rfl kk s p ⟨hc, hk, hko, trivial⟩ hfit hs hst hfu
theorem starts_self (l : List UInt8) : starts (bytes l) 0 l = true := by
  apply starts_all
  intro i hi
  rw [at?_list, Nat.zero_add]; rfl
/-- P7.4: a right term, printed, is read as the term. -/
theorem parse_print (he : EncAs) {t : List Cl} (hr : (right t).1 = 0) (hf : ∀ c ∈ t, fits c) {r : List UInt8} (hp : (print t) = (r, 0)) : parse (bytes r) = (t, 0, 0) := by
  obtain ⟨h1, h2, h3, h4⟩ := term_print he hr hf hp
  have hsz : (bytes r).size = r.length := by simp [bytes, ByteArray.size]
  have ht := h4 (bytes r) 0 (fuel (bytes r) 0) (starts_self r) (fun c hc => by rw [at?_ge (by omega)] at hc; cases hc) (by unfold fuel; omega)
  unfold parse
  rw [if_neg (by omega), ht]
  simp only
  rw [skip_end (by omega), if_neg (by omega), if_neg (by omega)]
end Go.Proofs.YtebdikbngnolbaaDoor.Txt
