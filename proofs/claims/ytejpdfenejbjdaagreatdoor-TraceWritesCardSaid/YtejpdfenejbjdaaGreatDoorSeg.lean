/- A statement that draws its order, in whose operations a few write, each in a forced place: one walk in the text's order. -/
import Derived.StillTail
import Derived.Deep.Quiet
import Derived.Deep.QuietTactic
import Derived.BigQuiet
import Derived.KernelRfl
namespace Go.Proofs.YtejpdfenejbjdaaGreatDoor.Seg
set_option linter.unusedVariables false
set_option linter.unusedSimpArgs false
open Go
section
variable {P : Program} {ops : Array Oper} {md : Region.Mode} {C : World → Prop}

/-- 'k' on: what is listed while the operations from k to n are carried out. -/
structure Inv (md : Region.Mode) (ops : Array Oper) (k n : Nat) (listed : Array Bool) : Prop where
  size : listed.size = ops.size
  closed : ∀ j oj, ops[j]? = some oj → listed.getD j false = true → ∀ e ∈ oj.after, Region.binds md e = true → listed.getD e.on false = true
  tail : ∀ t, n ≤ t → t < ops.size → listed.getD t true = false
  head : ∀ i, i < k → listed.getD i true = true

/-- Every operation from k to n leads to n; every one behind n waits for one from n on. -/
def sink (md : Region.Mode) (ops : Array Oper) (k n : Nat) : Bool :=
  (List.range n).all fun i => decide (i < k) || (List.range (n + 1)).any fun j => decide (i < j) && Region.waitsFor md ops j i
def post (md : Region.Mode) (ops : Array Oper) (n : Nat) : Bool :=
  (List.range ops.size).all fun t => decide (t ≤ n) || (List.range t).any fun j => decide (n ≤ j) && Region.waitsFor md ops t j

theorem Inv.set {k n i : Nat} {listed : Array Bool} (inv : Inv md ops k n listed) (hi : i ∈ Region.ready md ops listed) (hin : i < n) : Inv md ops k n (listed.setIfInBounds i true) := by
  obtain ⟨hun, oi, hoi, hall⟩ := mem_ready.1 hi
  refine ⟨by simp [inv.size], ?_, ?_, ?_⟩
  · intro j oj hj hl e he hb
    by_cases hij : i = j
    · subst hij
      obtain rfl : oi = oj := Option.some.inj (hoi.symm.trans hj)
      exact getD_set_true (hall e he hb)
    · rw [getD_set_ne false hij] at hl
      exact getD_set_true (inv.closed j oj hj hl e he hb)
  · intro t ht ht'
    rw [getD_set_ne true (by omega)]
    exact inv.tail t ht ht'
  · intro j hj
    by_cases hij : i = j
    · subst hij
      rw [inv.head i hj] at hun; cases hun
    · rw [getD_set_ne true hij]; exact inv.head j hj

theorem blocked {k n : Nat} {listed : Array Bool} (hs : sink md ops k n = true) (hp : post md ops n = true) (hn : n < ops.size) (inv : Inv md ops k n listed) :
    ∀ (d i : Nat), n - i = d → i < n → listed.getD i true = false → ∀ t ∈ Region.ready md ops listed, t < n := by
  intro d
  induction d using Nat.strongRecOn with
  | _ d ih =>
    intro i hd hi hun t hr
    rcases Nat.lt_or_ge t n with h | htn
    · exact h
    exfalso
    obtain ⟨-, ot, hot, hall⟩ := mem_ready.1 hr
    have htlt : t < ops.size := (Array.getElem?_eq_some_iff.1 hot).1
    have hunl : ∀ j, listed.getD j true = false → listed.getD j false = true → False := fun j h1 h2 => by rw [getD_both h1] at h2; cases h2
    by_cases htn' : t = n
    · have h1 := List.all_eq_true.1 hs i (List.mem_range.2 hi)
      simp only [Bool.or_eq_true, decide_eq_true_eq] at h1
      rcases h1 with h1 | h1
      · rw [inv.head i h1] at hun; cases hun
      obtain ⟨j, hj, hj2⟩ := List.any_eq_true.1 h1
      simp only [Bool.and_eq_true, decide_eq_true_eq] at hj2
      obtain ⟨oj, hoj, e, he, hb, hon⟩ := Region.waitsFor_spec hj2.2
      have hjle := List.mem_range.1 hj
      by_cases hjn : j = n
      · rw [hjn, ← htn'] at hoj
        obtain rfl : oj = ot := Option.some.inj (hoj.symm.trans hot)
        exact hunl i hun (hon ▸ hall e he hb)
      · cases hl : listed.getD j false with
        | true => exact hunl i hun (hon ▸ inv.closed j oj hoj hl e he hb)
        | false =>
          have hjs : j < listed.size := by rw [inv.size]; omega
          exact Nat.lt_irrefl n (htn' ▸ ih (n - j) (by omega) j rfl (by omega) (getD_in hjs hl) t hr)
    · have h1 := List.all_eq_true.1 hp t (List.mem_range.2 htlt)
      simp only [Bool.or_eq_true, decide_eq_true_eq] at h1
      rcases h1 with h1 | h1
      · omega
      · obtain ⟨j, hj, hj2⟩ := List.any_eq_true.1 h1
        simp only [Bool.and_eq_true, decide_eq_true_eq] at hj2
        obtain ⟨o', ho', e, he, hb, hon⟩ := Region.waitsFor_spec hj2.2
        obtain rfl : o' = ot := Option.some.inj (ho'.symm.trans hot)
        have hjl := List.mem_range.1 hj
        exact hunl j (inv.tail j hj2.1 (by omega)) (hon ▸ hall e he hb)

/-- Whatever order is picked, up to n. -/
def anyL (P : Program) (md : Region.Mode) (ops : Array Oper) (C : World → Prop) (n : Nat) (L : Array Bool → Act → Prop) : Nat → Array Bool → Act → Prop
  | 0, listed, a => L listed a
  | f + 1, listed, a => Region.ready md ops listed ≠ [] ∧ ∀ i ∈ Region.ready md ops listed, i < n ∧ qOp P ops C i (anyL P md ops C n L f (listed.setIfInBounds i true)) a
theorem any_of_head {n g : Nat} {L : Array Bool → Act → Prop} {Q : Exit → Act → World → Prop} (hL : ∀ listed a w, C w → L listed a → wpAny P md ops Q g listed a w) :
    ∀ (f : Nat) (listed : Array Bool) (a : Act) (w : World), C w → anyL P md ops C n L f listed a → wpAny P md ops Q (f + g) listed a w
  | 0, listed, a, w, hw, h => by rw [Nat.zero_add]; exact hL _ _ _ hw h
  | f + 1, listed, a, w, hw, h => by
    rw [show f + 1 + g = (f + g) + 1 by omega]
    exact ⟨fun h0 => absurd h0 h.1, fun i hi => wpOp_of_qOp hw (fun a' w' hw' h' => any_of_head hL f _ a' w' hw' h') (h.2 i hi).2⟩

theorem first {k n i : Nat} {oi : Oper} {v : Value} {L : Array Bool → Act → Prop} (hi : ops[i]? = some oi) (hsel : ∀ (j : Nat) (o : Oper) cs b, ops[j]? = some o → o.op ≠ .select cs b)
    (hs : sink md ops k n = true) (hp : post md ops n = true) (hn : n < ops.size) (hin : i < n) (hdone : ∀ listed a, L listed a → ∀ j ∈ Region.ready md ops listed, n ≤ j) :
    ∀ (f : Nat) (listed : Array Bool) (a : Act), Inv md ops k n listed →
      (∀ j oj, ops[j]? = some oj → j ≠ i → listed.getD j true = false → (∀ e ∈ oj.after, Region.binds md e = true → e.on ≠ i) → oi.apart ops oj = true) →
      i ∈ Region.ready md ops listed → YieldsIn P ops C oi v a →
      anyL P md ops C n L f (listed.setIfInBounds i true) (a.put oi.dst v) → anyL P md ops C n L (f + 1) listed a := by
  intro f
  induction f with
  | zero =>
    intro listed a inv _ hr hy H
    refine ⟨fun h => by (rw [h] at hr; cases hr), fun j hj => ?_⟩
    have hjn := blocked hs hp hn inv _ i rfl hin (mem_ready.1 hr).1 j hj
    refine ⟨hjn, ?_⟩
    by_cases hji : j = i
    · subst hji; exact hy.qOp hi H
    · have := hdone _ _ H j (ready_mono hj hji); omega
  | succ f ih =>
    intro listed a inv hfree hr hy H
    refine ⟨fun h => by (rw [h] at hr; cases hr), fun j hj => ?_⟩
    have hiun := (mem_ready.1 hr).1
    have hjn := blocked hs hp hn inv _ i rfl hin hiun j hj
    refine ⟨hjn, ?_⟩
    by_cases hji : j = i
    · subst hji; exact hy.qOp hi H
    · obtain ⟨hjun, oj, hoj, hall⟩ := mem_ready.1 hj
      have hnot : ∀ e ∈ oj.after, Region.binds md e = true → e.on ≠ i := fun e he hb heq => by
        have h1 := hall e he hb
        rw [heq, getD_both hiun] at h1; cases h1
      refine qOp_mono (fun a' h3 => ih _ a' (inv.set hj hjn) ?_ (ready_mono hr (Ne.symm hji)) h3.1 ?_)
        (qOp_put hoj (hfree j oj hoj hji hjun hnot) (fun cs b => hsel i oi cs b hi) (fun cs b => hsel j oj cs b hoj) hy (H.2 j (ready_mono hj hji)).2)
      · intro m om hm hmi hmun hno
        refine hfree m om hm hmi ?_ hno
        by_cases hjm : j = m
        · subst hjm; exact hjun
        · rwa [getD_set_ne true hjm] at hmun
      · rw [Array.setIfInBounds_comm _ _ hji]; exact h3.2

/-- In the text's order from k to n, nothing in another's way; then n alone. -/
def lexTo (md : Region.Mode) (ops : Array Oper) (n : Nat) : Nat → Nat → Array Bool → Bool
  | 0, _, listed => decide (Region.ready md ops listed = [n])
  | f + 1, k, listed => (Region.ready md ops listed).contains k && Region.free md ops listed k && lexTo md ops n f (k + 1) (listed.setIfInBounds k true)
def listTo : Nat → Nat → Array Bool → Array Bool
  | 0, _, listed => listed
  | f + 1, k, listed => listTo f (k + 1) (listed.setIfInBounds k true)

theorem lex {k0 n : Nat} {Lq : Act → Prop} (hsel : Region.noSelect ops = true) (hs : sink md ops k0 n = true) (hp : post md ops n = true) (hn : n < ops.size) :
    ∀ (l : List Oper) (k : Nat) (listed : Array Bool) (a : Act), (∀ j, j < l.length → l[j]? = ops[k + j]?) → k + l.length = n → Inv md ops k0 n listed →
    lexTo md ops n l.length k listed = true → wpQuiet P ops C Lq l a →
    anyL P md ops C n (fun listed' a' => (listed' = listTo l.length k listed ∧ Region.ready md ops listed' = [n] ∧ Inv md ops k0 n listed') ∧ Lq a') l.length listed a
  | [], k, listed, a, _, hk, inv, hB, h => ⟨⟨rfl, by simpa [lexTo] using hB, inv⟩, h⟩
  | o :: l, k, listed, a, hl, hk, inv, hB, h => by
    have h0 : ops[k]? = some o := by simpa using (hl 0 (by simp)).symm
    simp only [List.length_cons, lexTo, Bool.and_eq_true] at hB
    obtain ⟨⟨hr, hf⟩, hB'⟩ := hB
    have hkn : k < n := by simp only [List.length_cons] at hk; omega
    have hr' : k ∈ Region.ready md ops listed := by simpa using hr
    have hst : qOp P ops C k (wpQuiet P ops C Lq l) a := by unfold qOp; simp only [h0]; exact h
    obtain ⟨v, hy, hK⟩ := yieldsIn_of_qOp h0 hst
    exact first h0 (Region.noSelect_spec hsel) hs hp hn hkn (fun listed' a' hL j hj => by rw [hL.1.2.1] at hj; simp at hj; omega) l.length listed a inv (Region.free_spec h0 hf) hr' hy
      (lex hsel hs hp hn l (k + 1) _ _ (fun j hj => by have := hl (j + 1) (by simp; omega); simpa [Nat.add_assoc, Nat.add_comm 1 j] using this) (by simp only [List.length_cons] at hk; omega) (inv.set hr' hkn) hB' hK)

/-- The check: which places write. -/
def segB (md : Region.Mode) (ops : Array Oper) : List Nat → Nat → Array Bool → Bool
  | [], k, listed => Region.lexFrom md ops (ops.size - k) k listed
  | n :: bars, k, listed => decide (k ≤ n) && decide (n < ops.size) && sink md ops k n && post md ops n && lexTo md ops n (n - k) k listed && segB md ops bars (n + 1) ((listTo (n - k) k listed).setIfInBounds n true)

/-- The walk: operations that only read, one that may write, operations that only read, .. -/
def wpSeg (P : Program) (ops : Array Oper) (Q : Exit → Act → World → Prop) : List Nat → Nat → List Oper → Act → World → Prop
  | [], _, l, a, w => wpQuiet P ops (fun w' => ∃ n, w' = w.drewN n) (fun a' => ∀ w', (∃ n, w' = w.drewN n) → Q .normal a' w') l a
  | n :: bars, k, l, a, w => wpQuiet P ops (fun w' => ∃ n, w' = w.drewN n) (fun a' => ∀ w', (∃ n, w' = w.drewN n) → ∀ K : Act → World → Prop, (∀ a'' w'', wpSeg P ops Q bars (n + 1) (l.drop (n - k + 1)) a'' w'' → K a'' w'') → wpList P ops (Exit.then K Q) ((l.drop (n - k)).take 1) a' w') (l.take (n - k)) a

theorem wpOp_of_list {Q : Exit → Act → World → Prop} {K : Act → World → Prop} {n : Nat} {o : Oper} {a : Act} {w : World} (ho : ops[n]? = some o) (h : wpList P ops (Exit.then K Q) [o] a w) : wpOp P ops Q n K a w := by
  unfold wpOp
  simp only [ho]
  unfold wpList at h
  split
  · rename_i hw
    rw [if_pos hw] at h
    rcases h with h | ⟨h, a', w', hl⟩
    · left
      have e : wpList P ops (Exit.then K Q) [] = K := by funext a w; rfl
      rw [e] at h
      unfold Oper.wp at h ⊢
      generalize (execOp a.eval o).run P w = r at *
      cases r with
      | ok x w' =>
        cases x with
        | enter f args => exact Calls.mono h fun e w'' he => by cases e <;> exact he
        | _ => exact h
      | halt x w' =>
        cases x <;> exact h
    · exact .inr ⟨h, a', w', hl⟩
  · rename_i hw
    rw [if_neg hw] at h
    exact h

theorem any_of_seg {Q : Exit → Act → World → Prop} (hsel : Region.noSelect ops = true) : ∀ (bars : List Nat) (k : Nat) (l : List Oper) (listed : Array Bool) (a : Act) (w : World),
    (∀ j, l[j]? = ops[k + j]?) → k + l.length = ops.size → segB md ops bars k listed = true → (∀ n, k ≤ n → n < ops.size → Inv md ops k n listed) → wpSeg P ops Q bars k l a w → wpAny P md ops Q l.length listed a w
  | [], k, l, listed, a, w, hl, hk, hB, _, h => by
    refine wpAny_of_quiet (C := fun w' => ∃ n, w' = w.drewN n) (Q := fun a' => ∀ w', (∃ n, w' = w.drewN n) → Q .normal a' w') (fun _ w' hw' h => h w' hw') _ _ _ _ ⟨0, rfl⟩ (wpAnyQ_lex hsel l k listed a hl ?_ h)
    simpa [segB, show ops.size - k = l.length by omega] using hB
  | n :: bars, k, l, listed, a, w, hl, hk, hB, hinv, h => by
    simp only [segB, Bool.and_eq_true, decide_eq_true_eq] at hB
    obtain ⟨⟨⟨⟨⟨hkn, hn⟩, hs⟩, hp⟩, hlex⟩, hrest⟩ := hB
    have htl : (l.take (n - k)).length = n - k := by simp; omega
    have hlast : l[n - k]? = ops[n]? := by have := hl (n - k); rwa [show k + (n - k) = n by omega] at this
    have hnl : n - k < l.length := by omega
    have hon : ops[n]? = some l[n - k] := by rw [← hlast, List.getElem?_eq_getElem hnl]
    have H := lex (C := fun w' => ∃ n, w' = w.drewN n) hsel hs hp hn (l.take (n - k)) k listed a (fun j hj => by
      rw [htl] at hj
      rw [List.getElem?_take_of_lt hj]; exact hl j) (by omega) (hinv n hkn hn) (by rw [htl]; exact hlex) h
    rw [htl] at H
    have hsz : l.length = (n - k) + ((l.drop (n - k + 1)).length + 1) := by simp; omega
    rw [hsz]
    refine any_of_head (P := P) (md := md) (C := fun w' => ∃ n, w' = w.drewN n) (n := n) (g := (l.drop (n - k + 1)).length + 1) (Q := Q) ?_ _ _ _ _ ⟨0, rfl⟩ H
    rintro listed' a' w' hw' ⟨⟨rfl, hready, inv'⟩, hK⟩
    refine ⟨fun h0 => by (rw [hready] at h0; cases h0), fun i hi => ?_⟩
    rw [hready] at hi
    obtain rfl : i = n := by simpa using hi
    refine wpOp_of_list hon ?_
    have := hK w' hw' (wpAny P md ops Q (l.drop (i - k + 1)).length ((listTo (i - k) k listed).setIfInBounds i true)) (fun a'' w'' hseg => ?_)
    · rw [show (l.drop (i - k)).take 1 = [l[i - k]] by rw [List.drop_eq_getElem_cons hnl]; rfl] at this
      exact this
    · refine any_of_seg hsel bars (i + 1) (l.drop (i - k + 1)) _ a'' w'' (fun j => ?_) (by simp; omega) hrest (fun m hm hm' => ?_) hseg
      · rw [List.getElem?_drop, hl]; congr 1; omega
      · have hir : i ∈ Region.ready md ops (listTo (i - k) k listed) := by rw [hready]; simp
        obtain ⟨hun, oi, hoi, hall⟩ := mem_ready.1 hir
        refine ⟨by simp [inv'.size], ?_, ?_, ?_⟩
        · intro j oj hj hl' e he hb
          by_cases hij : i = j
          · subst hij
            obtain rfl : oi = oj := Option.some.inj (hoi.symm.trans hj)
            exact getD_set_true (hall e he hb)
          · rw [getD_set_ne false hij] at hl'
            exact getD_set_true (inv'.closed j oj hj hl' e he hb)
        · intro t ht ht'
          rw [getD_set_ne true (by omega)]
          exact inv'.tail t (by omega) ht'
        · intro j hj
          by_cases hij : i = j
          · subst hij
            have hsz' : i < (listTo (i - k) k listed).size := by rw [inv'.size]; exact hn
            simp [hsz']
          · rw [getD_set_ne true hij]
            have hji : j < i := by omega
            cases hl' : (listTo (i - k) k listed).getD j true with
            | true => rfl
            | false =>
              have := blocked hs hp hn inv' _ j rfl hji hl' i hir
              omega

/-- The region, in the text's order. 'bars': the places that may write. -/
theorem wp_region_seg {id : Nat} {Q : Exit → Act → World → Prop} {a : Act} {w : World} {l : List Oper} (bars : List Nat) (hm : P.follows .mixedOrders = true) (hsel : Region.noSelect l.toArray = true)
    (hB : segB .any l.toArray bars 0 (Array.replicate l.toArray.size false) = true) (h : wpSeg P l.toArray Q bars 0 l a w.drew) : (Code.region id l.toArray true).wp P Q a w := by
  refine wp_region_any hm ?_
  have := any_of_seg (md := .any) hsel bars 0 l (Array.replicate l.toArray.size false) a w.drew (by simp) (by simp) hB (fun n _ _ => ⟨by simp, ?_, ?_, ?_⟩) h
  · simpa using this
  · intro j oj _ hl
    rw [getD_replicate_false] at hl; cases hl
  · intro t _ ht
    exact getD_in (by simpa using ht) (getD_replicate_false _ _)
  · intro i hi; omega
end
end Go.Proofs.YtejpdfenejbjdaaGreatDoor.Seg
