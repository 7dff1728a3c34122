/- Plain law: what is printed has no sign below 32. -/
import Derived.Test.YtejpdfenejbjdaaGreatDoorBackB
import Derived.Test.YtejpdfenejbjdaaGreatDoorTrH
import Derived.Lib.SplitLaws
import Derived.Lib.IndexBytes
import Derived.Lib.ParseIntBTie
import Derived.Lib.AtoiAll
namespace Go.Proofs.YtejpdfenejbjdaaGreatDoor
open Txt
set_option linter.unusedVariables false
set_option linter.unusedSimpArgs false

def Vis (l : List UInt8) : Prop := ∀ c ∈ l, 32 ≤ c.toNat
theorem vis_append {a b : List UInt8} (ha : Vis a) (hb : Vis b) : Vis (a ++ b) := fun c hc => by
  rcases List.mem_append.1 hc with h | h
  · exact ha c h
  · exact hb c h
theorem vis_cons {c : UInt8} {l : List UInt8} (h : 32 ≤ c.toNat) (hl : Vis l) : Vis (c :: l) := fun d hd => by
  rcases List.mem_cons.1 hd with rfl | hd
  · exact h
  · exact hl d hd
theorem vis_nil : Vis [] := fun c hc => by cases hc
theorem toNat_ofNat {n : Nat} (h : n < 256) : (UInt8.ofNat n).toNat = n := by simp [UInt8.toNat_ofNat', Nat.mod_eq_of_lt h]
theorem dec_digit (u : Nat) : ∀ c ∈ Lib.decDigits u, 48 ≤ c.toNat ∧ c.toNat ≤ 57 := by
  induction u using Nat.strongRecOn with
  | _ u ih =>
    intro c hc
    rw [Lib.decDigits] at hc
    split at hc
    · simp only [List.mem_singleton] at hc
      subst hc
      rw [toNat_ofNat (by omega)]; omega
    · rcases List.mem_append.1 hc with h | h
      · exact ih (u / 10) (by omega) c h
      · simp only [List.mem_singleton] at h
        subst h
        rw [toNat_ofNat (by omega)]; omega
theorem vis_dec (u : Nat) : Vis (Lib.decDigits u) := fun c hc => by have := dec_digit u c hc; omega
theorem vis_itoa (n : Int) : Vis (Lib.itoa n) := by
  unfold Lib.itoa
  split
  · exact vis_cons (by decide) (vis_dec _)
  · exact vis_dec _
theorem vis_encode (r : Nat) (h : 32 ≤ r) : Vis (Utf8.encode (r : Int)).data.toList := by
  have hc : 32 ≤ (if Utf8.valid (r : Int) then (r : Int).toNat else Utf8.runeError) := by
    split
    · simpa using h
    · decide
  have hc2 : (if Utf8.valid (r : Int) then (r : Int).toNat else Utf8.runeError) ≤ 1114111 := by
    split
    · rename_i hv
      simp [Utf8.valid] at hv
      omega
    · decide
  unfold Utf8.encode
  simp only
  generalize (if Utf8.valid (r : Int) then (r : Int).toNat else Utf8.runeError) = k at hc hc2
  have hb : ∀ n, 32 ≤ n → n < 256 → 32 ≤ (UInt8.ofNat n).toNat := fun n h h' => by rw [toNat_ofNat h']; exact h
  intro c hcm
  split at hcm
  · simp at hcm; subst hcm; exact hb _ (by omega) (by omega)
  · split at hcm
    · simp only [List.mem_cons, List.not_mem_nil, or_false] at hcm
      rcases hcm with rfl | rfl <;> exact hb _ (by omega) (by omega)
    · split at hcm
      · simp only [List.mem_cons, List.not_mem_nil, or_false] at hcm
        rcases hcm with rfl | rfl | rfl <;> exact hb _ (by omega) (by omega)
      · simp only [List.mem_cons, List.not_mem_nil, or_false] at hcm
        rcases hcm with rfl | rfl | rfl | rfl <;> exact hb _ (by omega) (by omega)
theorem vis_piece (r : Nat) : Vis (piece r) := by
  unfold piece
  split
  · rename_i h
    exact vis_cons (by decide) (vis_encode r (by omega))
  · split
    · rename_i h h2
      refine vis_cons (by decide) (vis_cons ?_ vis_nil)
      rcases escape_cases h2 with rfl | rfl | rfl | rfl | rfl | rfl | rfl | rfl <;> decide
    · split
      · refine vis_append (vis_append (fun c hc => ?_) ?_) (fun c hc => ?_)
        · simp at hc; rcases hc with rfl | rfl | rfl <;> decide
        · unfold hexT
          have hx : ∀ n, n < 16 → 32 ≤ (hexd n).toNat := by
            intro n hn
            unfold hexd
            split
            · rw [toNat_ofNat (by omega)]; omega
            · rw [toNat_ofNat (by omega)]; omega
          rename_i h1 h2 h3
          split
          · exact vis_cons (hx _ (by assumption)) vis_nil
          · exact vis_cons (hx _ (by omega)) (vis_cons (hx _ (by omega)) vis_nil)
        · simp at hc; subst hc; decide
      · rename_i h1 h2 h3
        exact vis_encode r (by omega)
theorem vis_pieces (s : ByteArray) : ∀ (k p : Nat), Vis (piecesF s k p)
  | 0, _ => vis_nil
  | k + 1, p => by
    rw [piecesF]
    split
    · exact vis_append (vis_piece _) (vis_pieces s k _)
    · exact vis_nil
theorem inside_vis {c : UInt8} (h : insideB c = true) : 32 ≤ c.toNat := by
  unfold insideB smallB digitB at h
  simp only [Bool.or_eq_true, Bool.and_eq_true, decide_eq_true_eq, beq_iff_eq] at h
  rcases h with (((h | h) | h) | h) | h
  · omega
  · omega
  · omega
  · subst h; decide
  · subst h; decide
theorem vis_quote (s : ByteArray) : Vis (quote s).1 := by
  unfold quote
  split
  · split
    · rename_i h1 hbare
      simp only [bare, Bool.and_eq_true, decide_eq_true_eq, Bool.not_eq_true'] at hbare
      obtain ⟨⟨⟨hne, hle⟩, hrun⟩, hres⟩ := hbare
      intro c hc
      obtain ⟨i, hi, rfl⟩ := List.getElem_of_mem hc
      have hi' : i < s.size := by have h := hi; rw [Array.length_toList] at h; exact h
      unfold runEnd at hrun
      rw [dif_pos (by omega)] at hrun
      split at hrun
      · obtain ⟨h2, h3⟩ := span_in (f := insideB) (s := s) (p := 0) (q := i) (Nat.zero_le _) (by omega)
        rw [Array.getElem_toList]
        exact inside_vis h3
      · omega
    · exact vis_cons (by decide) (vis_append (vis_pieces _ _ _) (vis_cons (by decide) vis_nil))
  · exact vis_nil
theorem vis_shown (l : List UInt8) : Vis (shown l) := by
  unfold shown
  split
  · rename_i h
    unfold plainB at h
    simp only [Bool.and_eq_true, decide_eq_true_eq, List.all_eq_true] at h
    refine vis_append (vis_append (fun c hc => ?_) (fun c hc => ?_)) (fun c hc => ?_)
    · simp at hc; rcases hc with rfl | rfl | rfl <;> decide
    · simp only [slashed, List.mem_flatMap] at hc
      obtain ⟨d, hd, hc⟩ := hc
      have := (h.2 d hd).1
      split at hc
      · simp at hc
        rcases hc with rfl | rfl
        · decide
        · exact this
      · simp at hc; subst hc; exact this
    · simp at hc; rcases hc with rfl | rfl | rfl <;> decide
  · refine vis_append (vis_append (fun c hc => ?_) ?_) (fun c hc => ?_)
    · simp at hc; subst hc; decide
    · cases l with
      | nil => exact vis_nil
      | cons d l =>
        rw [commas]
        refine vis_append (vis_dec _) fun c hc => ?_
        simp only [List.mem_flatMap] at hc
        obtain ⟨e, -, hc⟩ := hc
        exact vis_cons (by decide) (vis_dec _) c hc
    · simp at hc; subst hc; decide
theorem vis_leaf (c : Cl) : Vis (leaf c) := by
  unfold leaf
  split
  · exact vis_itoa _
  · split
    · exact vis_quote _
    · split
      · exact vis_append (vis_append (fun c hc => by simp at hc; rcases hc with rfl | rfl | rfl | rfl | rfl <;> decide) (vis_itoa _)) (vis_cons (by decide) vis_nil)
      · split
        · exact vis_append (vis_append (vis_cons (by decide) vis_nil) (vis_itoa _)) (vis_cons (by decide) vis_nil)
        · split
          · exact vis_cons (by decide) (vis_cons (by decide) vis_nil)
          · split
            · exact vis_cons (by decide) (vis_cons (by decide) vis_nil)
            · exact vis_shown _
theorem vis_closed : ∀ st : List Opn, Vis (closed st).1
  | [] => vis_nil
  | o :: st => by
    rw [closed]
    split
    · exact vis_nil
    · split
      · exact vis_cons (by decide) (vis_closed st)
      · split
        · exact vis_cons (by decide) vis_nil
        · exact vis_cons (by decide) (vis_closed st)
theorem vis_printC (c : Cl) (st : List Opn) : Vis (printC c st).1 := by
  have hp : ∀ (pre : List UInt8) (st : List Opn), Vis pre → Vis (if c.kind = 7 then (pre ++ [91], (⟨0, true, false⟩ :: st : List Opn)) else if c.kind = 5 ∧ c.n > 0 then (pre ++ [123], ⟨c.n, false, false⟩ :: st) else (pre ++ leaf c ++ (closed st).1, (closed st).2)).1 := by
    intro pre st h
    split
    · exact vis_append h (vis_cons (by decide) vis_nil)
    · split
      · exact vis_append h (vis_cons (by decide) vis_nil)
      · exact vis_append (vis_append h (vis_leaf c)) (vis_closed st)
  unfold printC
  cases st with
  | nil => exact hp [] [] vis_nil
  | cons o r =>
    dsimp only
    split
    · split
      · exact vis_cons (by decide) vis_nil
      · split
        · exact vis_cons (by decide) (vis_closed r)
        · rename_i h7 h6
          have := hp [124] (o :: r) (vis_cons (by decide) vis_nil)
          rw [if_neg h7] at this
          exact this
    · exact hp [] (o :: r) vis_nil
theorem vis_printF : ∀ (t : List Cl) (b : List UInt8) (st : List Opn) (r : List UInt8), Vis b → printF t b st = some r → Vis r
  | [], b, st, r, hb, h => by
    rw [printF] at h
    split at h
    · cases h
    · cases h; exact hb
  | c :: t, b, st, r, hb, h => by
    rw [printF] at h
    split at h
    · cases h
    · exact vis_printF t _ _ r (vis_append hb (vis_printC c st)) h
theorem vis_print (t : List Cl) : Vis (print t).1 := by
  unfold print
  split
  · exact vis_nil
  · cases h : printF t [] [] with
    | none => exact vis_nil
    | some b => exact vis_printF t [] [] b vis_nil h
theorem vis_whoB (n : Int) : Vis (whoB n) := by
  unfold whoB
  split
  · exact vis_cons (by decide) vis_nil
  · exact vis_cons (by decide) (vis_append (vis_itoa n) (vis_cons (by decide) vis_nil))
theorem vis_word {k : Int} {r : TRow} (h : trow k = some r) : Vis r.word.data.toList := by
  unfold trow at h
  repeat' (split at h)
  all_goals (first | (cases h; unfold Vis; decide) | cases h)
theorem vis_evPrint (e : Ev) : Vis (evPrint e).1 := by
  unfold evPrint
  split
  · exact vis_nil
  · cases h : trow e.kind with
    | none => exact vis_nil
    | some r =>
      have hh : Vis (evHead e r) := by
        unfold evHead
        refine vis_append (vis_append (vis_append (vis_append (vis_itoa _) (vis_cons (by decide) vis_nil)) (vis_word h)) ?_) ?_
        · split
          · exact vis_cons (by decide) (vis_whoB _)
          · exact vis_nil
        · split
          · exact vis_cons (by decide) (vis_whoB _)
          · exact vis_nil
      dsimp only
      split
      · split
        · exact vis_nil
        · exact vis_append hh (vis_cons (by decide) (vis_print _))
      · exact hh
end Go.Proofs.YtejpdfenejbjdaaGreatDoor

namespace Go.Proofs.YtejpdfenejbjdaaGreatDoor
open Txt
set_option linter.unusedVariables false
set_option linter.unusedSimpArgs false

theorem idx_hit {x : UInt8} : ∀ {a b : List UInt8}, x ∉ a → Lib.index (a ++ x :: b) [x] = (a.length : Int)
  | a, b, h => by
    rw [Lib.index_one]
    induction a with
    | nil => simp [Lib.indexByte]
    | cons c a ih =>
      have hc : (c == x) = false := by simp; rintro rfl; exact h (List.mem_cons_self)
      have := ih (fun h' => h (List.mem_cons_of_mem _ h'))
      rw [List.cons_append, Lib.indexByte, hc, this]
      have h1 : ((a.length : Int) == -1) = false := by rw [beq_eq_false_iff_ne]; omega
      rw [h1]
      simp
theorem idx_miss {x : UInt8} {a : List UInt8} (h : x ∉ a) : Lib.index a [x] = -1 := by
  rw [Lib.index_one]
  induction a with
  | nil => rfl
  | cons c a ih =>
    have hc : (c == x) = false := by simp; rintro rfl; exact h (List.mem_cons_self)
    have := ih (fun h' => h (List.mem_cons_of_mem _ h'))
    rw [Lib.indexByte, hc, this]
    rfl
theorem cut_hit {x : UInt8} {a b : List UInt8} (h : x ∉ a) : Lib.cut (a ++ x :: b) [x] = (a, b, true) := by
  unfold Lib.cut
  rw [idx_hit h, if_pos (by omega)]
  simp
theorem cut_miss {x : UInt8} {a : List UInt8} (h : x ∉ a) : Lib.cut a [x] = (a, [], false) := by
  unfold Lib.cut
  rw [idx_miss h, if_neg (by omega)]
/-- Words, a blank between two. -/
def joinW : List (List UInt8) → List UInt8
  | [] => []
  | [a] => a
  | a :: l => a ++ 32 :: joinW l
theorem joinW_cons (a b : List UInt8) (l : List (List UInt8)) : joinW (a :: b :: l) = a ++ 32 :: joinW (b :: l) := rfl
theorem cut_join {a : List UInt8} {l : List (List UInt8)} (h : (32 : UInt8) ∉ a) : (Lib.cut (joinW (a :: l)) [32]).1 = a ∧ (Lib.cut (joinW (a :: l)) [32]).2.1 = joinW l := by
  cases l with
  | nil => rw [show joinW [a] = a from rfl, cut_miss h]; exact ⟨rfl, rfl⟩
  | cons b l => rw [joinW_cons, cut_hit h]; exact ⟨rfl, rfl⟩
theorem map_data_inj : ∀ {l m : List ByteArray}, l.map (·.data.toList) = m.map (·.data.toList) → l = m
  | [], [], _ => rfl
  | [], _ :: _, h => by cases h
  | _ :: _, [], h => by cases h
  | x :: l, y :: m, h => by
    simp only [List.map_cons, List.cons.injEq] at h
    have e : x = y := by cases x; cases y; have := h.1; simp only at this; rw [Array.toList_inj.1 this]
    rw [e, map_data_inj h.2]
theorem parts_join {a b : List UInt8} {l : List (List UInt8)} (ha : (32 : UInt8) ∉ a) (hb : (32 : UInt8) ∉ b) (h1 : a ≠ []) : parts ⟨(joinW (a :: b :: l)).toArray⟩ = ⟨a.toArray⟩ :: ⟨b.toArray⟩ :: (if l = [] then [] else [⟨(joinW l).toArray⟩]) := by
  refine map_data_inj ?_
  unfold parts
  rw [Lib.splitB_data]
  have hsz : 2 ≤ (⟨(joinW (a :: b :: l)).toArray⟩ : ByteArray).size := by
    rw [joinW_cons]
    simp [ByteArray.size]
    cases a with
    | nil => exact absurd rfl h1
    | cons => simp; omega
  have hk : min 3 ((⟨(joinW (a :: b :: l)).toArray⟩ : ByteArray).size + 1) - 1 = 2 := by omega
  rw [hk]
  show Lib.splitK [32] 0 2 (joinW (a :: b :: l)) = _
  rw [Lib.splitK, joinW_cons, idx_hit ha, if_neg (by rw [beq_iff_eq]; omega)]
  have e1 : (a ++ 32 :: joinW (b :: l)).take ((a.length : Int).toNat + 0) = a := by simp
  have e2 : (a ++ 32 :: joinW (b :: l)).drop ((a.length : Int).toNat + [(32 : UInt8)].length) = joinW (b :: l) := by simp
  rw [e1, e2, Lib.splitK]
  cases l with
  | nil =>
    rw [show joinW [b] = b from rfl, idx_miss hb, if_pos (by simp)]
    simp
  | cons d l =>
    rw [joinW_cons, idx_hit hb, if_neg (by rw [beq_iff_eq]; omega)]
    have e3 : (b ++ 32 :: joinW (d :: l)).take ((b.length : Int).toNat + 0) = b := by simp
    have e4 : (b ++ 32 :: joinW (d :: l)).drop ((b.length : Int).toNat + [(32 : UInt8)].length) = joinW (d :: l) := by simp
    rw [e3, e4, Lib.splitK]
    simp
theorem uint_snoc (c : UInt8) (hc : 48 ≤ c.toNat ∧ c.toNat ≤ 57) : ∀ (l : List UInt8) (acc v : Nat), Lib.parseUint10 acc l = .ok v → v * 10 + (c.toNat - 48) < 18446744073709551616 → Lib.parseUint10 acc (l ++ [c]) = .ok (v * 10 + (c.toNat - 48))
  | [], acc, v, h, hv => by
    simp only [Lib.parseUint10] at h
    cases h
    simp only [List.nil_append, Lib.parseUint10]
    rw [if_pos hc, if_neg (by omega), if_neg (by omega)]
  | d :: l, acc, v, h, hv => by
    simp only [List.cons_append, Lib.parseUint10] at h ⊢
    split at h
    · rename_i hd
      rw [if_pos hd]
      split at h
      · cases h
      · rename_i h1
        rw [if_neg h1]
        split at h
        · cases h
        · rename_i h2
          rw [if_neg h2]
          exact uint_snoc c hc l _ v h hv
    · cases h
theorem uint_dec (u : Nat) (h : u < 18446744073709551616) : Lib.parseUint10 0 (Lib.decDigits u) = .ok u := by
  induction u using Nat.strongRecOn with
  | _ u ih =>
    rw [Lib.decDigits]
    split
    · rename_i h1
      have := uint_snoc (UInt8.ofNat (48 + u)) (by rw [toNat_ofNat (by omega)]; omega) [] 0 0 rfl (by rw [toNat_ofNat (by omega)]; omega)
      rw [toNat_ofNat (by omega)] at this
      simpa using this
    · rename_i h1
      have := uint_snoc (UInt8.ofNat (48 + u % 10)) (by rw [toNat_ofNat (by omega)]; omega) (Lib.decDigits (u / 10)) 0 (u / 10) (ih (u / 10) (by omega) (by omega)) (by rw [toNat_ofNat (by omega)]; omega)
      rw [toNat_ofNat (by omega)] at this
      rw [this]
      congr 1; omega
theorem itoa_nn {n : Int} (h : 0 ≤ n) : Lib.itoa n = Lib.decDigits n.toNat := by
  unfold Lib.itoa
  rw [if_neg (by omega)]
theorem dec_ne (u : Nat) : Lib.decDigits u ≠ [] := by
  rw [Lib.decDigits]
  split <;> simp
theorem num_itoa {n : Int} (h0 : 0 ≤ n) (h1 : n < 9223372036854775808) : numB ⟨(Lib.itoa n).toArray⟩ = n := by
  unfold numB
  rw [Lib.parseIntB_64, itoa_nn h0]
  have hu := uint_dec n.toNat (by omega)
  have hd := dec_digit n.toNat
  have hne := dec_ne n.toNat
  cases hl : Lib.decDigits n.toNat with
  | nil => exact absurd hl hne
  | cons c r =>
    rw [hl] at hu hd
    have hc := hd c List.mem_cons_self
    show (match Lib.atoiAll (c :: r) with | .ok v => v | _ => -1) = n
    unfold Lib.atoiAll
    simp only
    rw [if_neg (by omega)]
    unfold Lib.parseMag
    rw [if_neg (by simp), hu]
    simp only
    rw [if_neg (by omega), if_neg (by omega), if_neg (by omega)]
    show ((n.toNat : Nat) : Int) = n
    omega
theorem no_blank_itoa {n : Int} (h : 0 ≤ n) : (32 : UInt8) ∉ Lib.itoa n := by
  rw [itoa_nn h]
  intro hc
  have := (dec_digit n.toNat 32 hc).1
  revert this; decide
theorem no_blank_who {n : Int} (h : 0 ≤ n) : (32 : UInt8) ∉ whoB n := by
  unfold whoB
  split
  · decide
  · intro hc
    rcases List.mem_cons.1 hc with hc | hc
    · revert hc; decide
    · rcases List.mem_append.1 hc with hc | hc
      · exact no_blank_itoa h hc
      · revert hc; decide
theorem no_blank_word {k : Int} {r : TRow} (h : trow k = some r) : (32 : UInt8) ∉ r.word.data.toList := by
  unfold trow at h
  repeat' (split at h)
  all_goals (first | (cases h; decide) | cases h)
theorem kind_word {k : Int} {r : TRow} (h : trow k = some r) : kindB r.word = k := by
  unfold trow at h
  split at h
  · subst_vars; cases h; kernel_rfl
  · split at h
    · subst_vars; cases h; kernel_rfl
    · split at h
      · subst_vars; cases h; kernel_rfl
      · split at h
        · subst_vars; cases h; kernel_rfl
        · split at h
          · subst_vars; cases h; kernel_rfl
          · split at h
            · subst_vars; cases h; kernel_rfl
            · split at h
              · subst_vars; cases h; kernel_rfl
              · split at h
                · subst_vars; cases h; kernel_rfl
                · cases h
theorem pid_who {n : Int} (h0 : 0 ≤ n) (h1 : n < 9223372036854775808) : pidB ⟨(whoB n).toArray⟩ = n := by
  unfold pidB
  rw [ByteArray.toList_eq]
  unfold whoB
  split
  · rename_i h
    rw [h, if_pos (by decide)]
  · rw [if_neg (by simp)]
    have e : trimB ⟨(60 :: (Lib.itoa n ++ [62])).toArray⟩ = ⟨(Lib.itoa n).toArray⟩ := by
      unfold trimB
      have e1 : Lib.trimPrefix (60 :: (Lib.itoa n ++ [62])) [60] = Lib.itoa n ++ [62] := by
        unfold Lib.trimPrefix Lib.hasPrefix
        rw [if_pos (by simp [List.isPrefixOf])]
        rfl
      have e2 : Lib.trimSuffix (Lib.itoa n ++ [62]) [62] = Lib.itoa n := by
        unfold Lib.trimSuffix Lib.hasSuffix
        rw [if_pos (by rw [List.isSuffixOf_iff_suffix]; exact List.suffix_append _ _)]
        simp
      show (⟨(Lib.trimSuffix (Lib.trimPrefix (60 :: (Lib.itoa n ++ [62])) [60]) [62]).toArray⟩ : ByteArray) = _
      rw [e1, e2]
    rw [e]
    exact num_itoa h0 h1
theorem cutA_join {a : List UInt8} {l : List (List UInt8)} (h : (32 : UInt8) ∉ a) : cutA ⟨(joinW (a :: l)).toArray⟩ = ⟨a.toArray⟩ := by
  show (⟨(Lib.cut (joinW (a :: l)) [32]).1.toArray⟩ : ByteArray) = _
  rw [(cut_join h).1]
theorem cutR_join {a : List UInt8} {l : List (List UInt8)} (h : (32 : UInt8) ∉ a) : cutR ⟨(joinW (a :: l)).toArray⟩ = ⟨(joinW l).toArray⟩ := by
  show (⟨(Lib.cut (joinW (a :: l)) [32]).2.1.toArray⟩ : ByteArray) = _
  rw [(cut_join h).2]
theorem right_facts {e : Ev} {r : TRow} (hr : trow e.kind = some r) (h : evRight e = 0) : 0 ≤ e.tick ∧ e.tick ≤ 1152921504606846976 ∧ (r.pid = true → 0 ≤ e.pid ∧ e.pid ≤ 1099511627776) ∧ (r.pid = false → e.pid = 0) ∧ (r.by_ = true → 0 ≤ e.by_ ∧ e.by_ ≤ 1099511627776) ∧ (r.by_ = false → e.by_ = 0) ∧ termE r.term e.term = 0 := by
  unfold evRight at h
  rw [hr] at h
  dsimp only at h
  by_cases hn : e.tick < 0 ∨ e.tick > 1152921504606846976 ∨ within e.pid r.pid (if r.nobody then 0 else 1) = false ∨ within e.by_ r.by_ 0 = false
  · rw [if_pos hn] at h; cases h
  · rw [if_neg hn] at h
    simp only [not_or, Bool.not_eq_false] at hn
    obtain ⟨h1, h2, h3, h4⟩ := hn
    refine ⟨by omega, by omega, fun hp => ?_, fun hp => ?_, fun hp => ?_, fun hp => ?_, h⟩
    · unfold within at h3
      rw [hp] at h3
      simp only [if_true, Bool.and_eq_true, decide_eq_true_eq] at h3
      refine ⟨?_, h3.2⟩
      have := h3.1
      split at this <;> omega
    · unfold within at h3
      rw [hp] at h3
      simpa using h3
    · unfold within at h4
      rw [hp] at h4
      simpa using h4
    · unfold within at h4
      rw [hp] at h4
      simpa using h4
/-- What stands behind the word. -/
def chunks (e : Ev) (r : TRow) : List (List UInt8) := (if r.by_ then [whoB e.by_] else []) ++ ((if r.pid then [whoB e.pid] else []) ++ (if e.term.length > 0 then [(print e.term).1] else []))
theorem line_join {e : Ev} {r : TRow} {line : List UInt8} (hr : trow e.kind = some r) (h : evPrint e = (line, 0)) : line = joinW (Lib.itoa e.tick :: r.word.data.toList :: chunks e r) ∧ evRight e = 0 ∧ (e.term.length > 0 → (print e.term).2 = 0) := by
  unfold evPrint at h
  split at h
  · rename_i h1
    have := congrArg Prod.snd h
    exact absurd this h1
  · rename_i h1
    rw [hr] at h
    dsimp only at h
    refine ⟨?_, by omega, fun ht => ?_⟩
    · unfold chunks
      split at h
      · rename_i ht
        split at h
        · rename_i h2
          exact absurd (congrArg Prod.snd h) h2
        · have := congrArg Prod.fst h
          simp only at this
          rw [← this, if_pos ht]
          unfold evHead
          cases r.by_ <;> cases r.pid <;> simp [joinW]
      · rename_i ht
        have := congrArg Prod.fst h
        simp only at this
        rw [← this, if_neg ht]
        unfold evHead
        cases r.by_ <;> cases r.pid <;> simp [joinW]
    · rw [if_pos ht] at h
      split at h
      · rename_i h2
        exact absurd (congrArg Prod.snd h) h2
      · rename_i h2
        omega
theorem evParse_print (he : EncAs) {e : Ev} {line : List UInt8} (hf : ∀ c ∈ e.term, fits c) (h : evPrint e = (line, 0)) (hl : line.length ≤ 1048576) : evParse ⟨line.toArray⟩ = (e, 0) := by
  cases hr : trow e.kind with
  | none =>
    exfalso
    unfold evPrint at h
    split at h
    · rename_i h1
      exact absurd (congrArg Prod.snd h) h1
    · rw [hr] at h; cases h
  | some r =>
    obtain ⟨hj, hright, hpt⟩ := line_join hr h
    obtain ⟨f1, f2, f3, f4, f5, f6, f7⟩ := right_facts hr hright
    have hne : Lib.itoa e.tick ≠ [] := by rw [itoa_nn f1]; exact dec_ne _
    have hparts := parts_join (l := chunks e r) (no_blank_itoa f1) (no_blank_word hr) hne
    rw [← hj] at hparts
    unfold evParse
    rw [if_neg (by show ¬ (line.toArray.size > 1048576); simp; omega), hparts]
    dsimp only
    have ew : (⟨r.word.data.toList.toArray⟩ : ByteArray) = r.word := rfl
    rw [ew, kind_word hr, hr, num_itoa f1 (by omega)]
    dsimp only
    have hrest : ((if chunks e r = [] then [] else [(⟨(joinW (chunks e r)).toArray⟩ : ByteArray)]) : List ByteArray).headD .empty = ⟨(joinW (chunks e r)).toArray⟩ := by
      split
      · rename_i h0; rw [h0]; rfl
      · rfl
    rw [hrest]
    have hev : evOf e.kind e.tick r ⟨(joinW (chunks e r)).toArray⟩ = some e := by
      have h2 : ∀ k t p b, (if (⟨(joinW (if e.term.length > 0 then [(print e.term).1] else [])).toArray⟩ : ByteArray).size = 0 then some (⟨k, t, p, b, []⟩ : Ev) else if (parse ⟨(joinW (if e.term.length > 0 then [(print e.term).1] else [])).toArray⟩).2.1 ≠ 0 then none else some ⟨k, t, p, b, (parse ⟨(joinW (if e.term.length > 0 then [(print e.term).1] else [])).toArray⟩).1⟩) = some ⟨k, t, p, b, e.term⟩ := by
        intro k t p b
        by_cases ht : e.term.length > 0
        · rw [if_pos ht]
          have hp := hpt ht
          have hpp : print e.term = ((print e.term).1, 0) := by rw [← hp]
          have hpa := parse_print he (print_right hp) hf hpp
          obtain ⟨d, l, e1, -⟩ := print_lead hp
          rw [if_neg (by show ¬ ((joinW [(print e.term).1]).toArray.size = 0); rw [e1]; simp [joinW])]
          have e2 : (⟨(joinW [(print e.term).1]).toArray⟩ : ByteArray) = Txt.bytes (print e.term).1 := rfl
          rw [e2, hpa]
          simp
        · rw [if_neg ht]
          have h0 : e.term = [] := by
            cases hh : e.term with
            | nil => rfl
            | cons _ _ => rw [hh] at ht; simp at ht
          rw [if_pos (by rfl), h0]
      unfold evOf chunks
      cases hb : r.by_ with
      | false =>
        cases hp : r.pid with
        | false =>
          simp only [if_neg (show ¬ (false = true) by decide), List.nil_append, Bool.false_eq_true, if_false]
          rw [h2]
          have := f4 hp; have := f6 hb
          cases e; simp_all
        | true =>
          have hpn := f3 hp
          simp only [Bool.false_eq_true, if_false, List.nil_append, if_true, List.cons_append]
          rw [cutA_join (no_blank_who hpn.1), cutR_join (no_blank_who hpn.1), pid_who hpn.1 (by omega), h2]
          have := f6 hb
          cases e; simp_all
      | true =>
        have hbn := f5 hb
        cases hp : r.pid with
        | false =>
          simp only [Bool.false_eq_true, if_false, List.nil_append, if_true, List.cons_append]
          rw [cutA_join (no_blank_who hbn.1), cutR_join (no_blank_who hbn.1), pid_who hbn.1 (by omega), h2]
          have := f4 hp
          cases e; simp_all
        | true =>
          have hpn := f3 hp
          simp only [List.nil_append, if_true, List.cons_append]
          rw [cutA_join (no_blank_who hbn.1), cutR_join (no_blank_who hbn.1), pid_who hbn.1 (by omega)]
          rw [cutA_join (no_blank_who hpn.1), cutR_join (no_blank_who hpn.1), pid_who hpn.1 (by omega), h2]
    rw [hev]
    dsimp only
    rw [h]
    simp
end Go.Proofs.YtejpdfenejbjdaaGreatDoor

namespace Go.Proofs.YtejpdfenejbjdaaGreatDoor
open Txt
set_option linter.unusedVariables false
set_option linter.unusedSimpArgs false

/-- The lines of events; the error; the place. -/
def evPrintAllF : List Ev → Nat → List UInt8 → List UInt8 × Int × Nat
  | [], _, b => if 1048576 < b.length then ([], 4, 0) else (b, 0, 0)
  | e :: l, k, b => if (evPrint e).2 ≠ 0 then ([], (evPrint e).2, k) else if b.length ≤ 1048576 then evPrintAllF l (k + 1) (b ++ (evPrint e).1 ++ [10]) else evPrintAllF l (k + 1) b
def evPrintAll (l : List Ev) : List UInt8 × Int × Nat := evPrintAllF l 0 []
def lines (l : List Ev) : List UInt8 := l.flatMap fun e => (evPrint e).1 ++ [10]
/-- The events of lines; the error; the place. -/
def evParseAllF : Nat → List UInt8 → List Ev → List Ev × Int × Nat
  | 0, _, acc => (acc, 0, 0)
  | k + 1, s, acc => if s = [] then (acc, 0, 0)
    else if (Lib.cut s [10]).2.2 = false ∨ (evParse ⟨(Lib.cut s [10]).1.toArray⟩).2 ≠ 0 then ([], 180, acc.length)
    else evParseAllF k (Lib.cut s [10]).2.1 (acc ++ [(evParse ⟨(Lib.cut s [10]).1.toArray⟩).1])
def evParseAll (s : List UInt8) : List Ev × Int × Nat := if 1048576 < s.length then ([], 4, 0) else evParseAllF (s.length + 1) s []
theorem printAllF_long : ∀ (l : List Ev) (i : Nat) (b : List UInt8), 1048576 < b.length → (evPrintAllF l i b).2.1 ≠ 0
  | [], i, b, h => by rw [evPrintAllF, if_pos h]; show (4 : Int) ≠ 0; decide
  | e :: l, i, b, h => by
    rw [evPrintAllF]
    split
    · rename_i h1; exact h1
    · rw [if_neg (by omega)]; exact printAllF_long l _ b h
theorem printAllF_lines : ∀ (l : List Ev) (i n : Nat) (b r : List UInt8), evPrintAllF l i b = (r, 0, n) → r.length ≤ 1048576 ∧ r = b ++ lines l ∧ ∀ e ∈ l, (evPrint e).2 = 0
  | [], i, n, b, r, h => by
    rw [evPrintAllF] at h
    split at h
    · have := congrArg (fun x => x.2.1) h; simp at this
    · have := congrArg (fun x => x.1) h
      simp only at this
      subst this
      exact ⟨by omega, by simp [lines], fun e he => by cases he⟩
  | e :: l, i, n, b, r, h => by
    rw [evPrintAllF] at h
    split at h
    · rename_i h1
      have := congrArg (fun x => x.2.1) h
      exact absurd this h1
    · rename_i h1
      split at h
      · obtain ⟨h2, h3, h4⟩ := printAllF_lines l _ _ _ _ h
        refine ⟨h2, by rw [h3]; simp [lines], fun e' he => ?_⟩
        rcases List.mem_cons.1 he with rfl | he
        · omega
        · exact h4 e' he
      · rename_i h2
        exact absurd (congrArg (fun x => x.2.1) h) (printAllF_long l _ b (by omega))
theorem vis_no10 {l : List UInt8} (h : Vis l) : (10 : UInt8) ∉ l := fun hc => by
  have := h 10 hc
  revert this; decide
theorem parseAllF_lines (he : EncAs) : ∀ (l : List Ev) (k : Nat) (acc : List Ev), (∀ e ∈ l, (evPrint e).2 = 0 ∧ ∀ c ∈ e.term, fits c) → (lines l).length < k → (lines l).length ≤ 1048576 → evParseAllF k (lines l) acc = (acc ++ l, 0, 0)
  | [], k, acc, h, hk, hm => by
    obtain ⟨k, rfl⟩ : ∃ j, k = j + 1 := ⟨k - 1, by omega⟩
    rw [evParseAllF, if_pos (by rfl)]
    simp
  | e :: l, k, acc, h, hk, hm => by
    obtain ⟨k, rfl⟩ : ∃ j, k = j + 1 := ⟨k - 1, by omega⟩
    obtain ⟨h1, h2⟩ := h e List.mem_cons_self
    have e1 : lines (e :: l) = (evPrint e).1 ++ 10 :: lines l := by simp [lines]
    have e2 : evPrint e = ((evPrint e).1, 0) := by rw [← h1]
    have hlen := congrArg List.length e1
    rw [List.length_append, List.length_cons] at hlen
    rw [evParseAllF, e1, if_neg (by simp), cut_hit (vis_no10 (vis_evPrint e))]
    have hp := evParse_print he h2 e2 (by omega)
    simp only
    rw [if_neg (by rw [hp]; simp), hp]
    rw [parseAllF_lines he l k _ (fun e' he' => h e' (List.mem_cons_of_mem _ he')) (by omega) (by omega)]
    simp
theorem parseAll_printAll (he : EncAs) {l : List Ev} {r : List UInt8} {n : Nat} (hf : ∀ e ∈ l, ∀ c ∈ e.term, fits c) (h : evPrintAll l = (r, 0, n)) : evParseAll r = (l, 0, 0) ∧ r.length ≤ 1048576 := by
  obtain ⟨h1, h2, h3⟩ := printAllF_lines l 0 n [] r h
  rw [List.nil_append] at h2
  subst h2
  refine ⟨?_, h1⟩
  unfold evParseAll
  rw [if_neg (by omega), parseAllF_lines he l _ [] (fun e he' => ⟨h3 e he', hf e he'⟩) (by omega) h1]
  simp
end Go.Proofs.YtejpdfenejbjdaaGreatDoor
