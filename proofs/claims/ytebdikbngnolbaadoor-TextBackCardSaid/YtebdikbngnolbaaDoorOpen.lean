/- Arguments that are lists of cells, and lists of such lists, opened; how large their texts are. -/
import Derived.Test.YtebdikbngnolbaaDoorCells
import Derived.Test.YtebdikbngnolbaaDoorRight
import Derived.Test.YtebdikbngnolbaaDoorBackC
import Derived.Test.YtebdikbngnolbaaDoorAll
import Derived.ProofKit
import Derived.OpenShut
import Derived.Deep.Slices
import Derived.Deep.Strs
import Derived.SizedLaws
namespace Go.Proofs.YtebdikbngnolbaaDoor
open Go.ChangeShapes Go.WideShapes Go.ChangeAt Go.RowKit Go.Lib Go.Deep Txt
set_option linter.unusedVariables false
set_option linter.unusedSimpArgs false

section
variable {H : Type} {enc : TypeId × Value → H} {w : World} {base : Nat} {spare : Nat → Bool} {held : Bool}

theorem weightsAll_mem {P : Program} {e : TypeId} : ∀ {ds : List (DataW H)} {d : DataW H} {n : Nat}, d ∈ ds → n ∈ d.weights P e → n ∈ DataW.weightsAll P e ds
  | d0 :: ds, d, n, hd, hn => by
    simp only [DataW.weightsAll, List.mem_append]
    rw [List.mem_cons] at hd
    rcases hd with rfl | hd
    · exact .inl hn
    · exact .inr (weightsAll_mem hd hn)

theorem three_of {α : Type} : ∀ {l : List α}, l.length = 3 → ∃ a b c, l = [a, b, c]
  | [a, b, c], _ => ⟨a, b, c, rfl⟩

/-- A cell's datum. -/
def dcl (c : Cl) : DataW H := .agg [.lit (.int .i64 c.kind), .lit (.int .i64 c.n), .lit (.string c.text.data.toList)]
theorem trod_cl {fuel : Nat} {cs : List Value} {x : DataW H × List MemPlace} (h : DataW.trod enc Tryd.prog w base spare held fuel 52 cs = some x) : ∃ c : Cl, cs = cv c ∧ x.1 = dcl c ∧ fits c := by
  obtain ⟨y0, y1, y2, n, rfl, hl, h0, h1, h2⟩ := trod_struct3 Tryd.underlying52 h
  have hlen : cs.length = 3 := hl.trans (by kernel_rfl)
  have z0 : Tryd.prog.cellsOf 3 = 1 := by kernel_rfl
  have z1 : Tryd.prog.cellsOf 2 = 1 := by kernel_rfl
  have z2 : Tryd.prog.cellsOf 9 = 1 := by kernel_rfl
  clear hl
  obtain ⟨c0, c1, c2, rfl⟩ := three_of hlen
  clear hlen
  dsimp only at h0 h1 h2
  rw [z0] at h0
  rw [z1] at h1
  rw [z2] at h2
  simp only [List.drop_zero, List.drop_succ_cons, List.take_succ_cons, List.take_zero] at h0 h1 h2
  obtain ⟨k, e0, rfl, -⟩ := DataW.trod_int (k := .i64) Tryd.underlying3 h0
  obtain ⟨m, e1, rfl, hw⟩ := DataW.trod_int (k := .i64) Tryd.underlying2 h1
  obtain ⟨s, e2, rfl, -⟩ := DataW.trod_string Tryd.underlying9 h2
  simp only [List.cons.injEq, and_true] at e0 e1 e2
  subst e0 e1 e2
  have b := bounds_i64 hw
  exact ⟨⟨k, m, s⟩, rfl, rfl, b.1, by have := b.2; omega⟩

theorem cl_text {c : Cl} (h : ((dcl c : DataW H).weights Tryd.prog 52).all (· ≤ reachBytes) = true) : c.text.size ≤ 140737488355328 := by
  have := List.all_eq_true.1 h c.text.data.toList.length (by
    unfold dcl
    rw [DataW.weights]
    simp only [Tryd.underlying52]
    simp [DataW.weightsEach, DataW.weights])
  have e : c.text.data.toList.length = c.text.size := by simp
  rw [e] at this
  have h2 := reachBytes_lt
  simp only [decide_eq_true_eq] at this
  omega

/-- A list of cells, opened. -/
theorem open_cells {fuel : Nat} {cs : List Value} {x : DataW H × List MemPlace} (h : DataW.trod enc Tryd.prog w base spare held fuel 23 cs = some x) (hw : (x.1.weights Tryd.prog 23).all (· ≤ reachBytes) = true) :
    ∃ (v : Value) (t : List Cl), cs = [v] ∧ SeesT w v t ∧ TextsOk t ∧ ∀ c ∈ t, fits c := by
  rcases open_slice Tryd.underlying23 h with ⟨rfl, rfl⟩ | ⟨a, len, cap, m, n, D, Pl, rfl, hb, hl, hm, hmm, rfl, hi⟩
  · exact ⟨_, [], rfl, ⟨none, 0, rfl, Nat.le_refl _, fun h => absurd rfl h⟩, fun c hc => (by cases hc), fun c hc => (by cases hc)⟩
  · have hlm : len ≤ m := by rw [hmm]; split <;> omega
    have hce : Tryd.prog.cellsOf 52 = 3 := by kernel_rfl
    have hall : ∀ i, i < len → ∃ c : Cl, w.cells? base (a.add (i * 3)) 3 = some (cv c) ∧ D i = dcl c ∧ fits c := by
      intro i hil
      obtain ⟨cs', h1, h2⟩ := hi i (by omega)
      obtain ⟨c, rfl, h3, h4⟩ := trod_cl h2
      rw [hce] at h1
      exact ⟨c, h1, h3, h4⟩
    haveI : Inhabited Cl := ⟨⟨0, 0, .empty⟩⟩
    obtain ⟨C, hC⟩ := choose_lt hall
    have ht : ((List.range len).map C).length = len := by simp
    refine ⟨_, (List.range len).map C, rfl, ⟨some a, cap, by rw [ht], by rw [ht]; exact hl, fun _ => ⟨a, rfl, fun j u hj => ?_⟩⟩, fun c hc => ?_, fun c hc => ?_⟩
    · have hjl : j < len * 3 := by
        have := (List.getElem?_eq_some_iff.1 hj).1
        rw [cvs_length, ht] at this; exact this
      have hi3 : j / 3 < len := by omega
      have hd : j = (j / 3) * 3 + j % 3 := by omega
      have hcv := cvs_at ((List.range len).map C) (j / 3) (j % 3) (by rw [ht]; exact hi3) (by omega)
      rw [← hd, hj] at hcv
      obtain ⟨_, -, hat⟩ := World.cells?_some (hC _ hi3).1
      have := hat (j % 3) (by omega)
      rw [add_add, ← hd] at this
      rw [this, hcv]
      have eg : ((List.range len).map C)[j / 3]'(by rw [ht]; exact hi3) = C (j / 3) := by simp
      rw [eg]
    · rw [List.mem_map] at hc
      obtain ⟨i, hi', rfl⟩ := hc
      have hil : i < len := List.mem_range.1 hi'
      refine cl_text (H := H) (c := C i) (List.all_eq_true.2 fun n hn => List.all_eq_true.1 hw n ?_)
      rw [DataW.weights]
      simp only [Tryd.underlying23]
      refine List.mem_cons_of_mem _ (List.mem_append_left _ (weightsAll_mem (d := D i) (List.mem_map.2 ⟨i, hi', rfl⟩) ?_))
      rw [(hC i hil).2.1]; exact hn
    · rw [List.mem_map] at hc
      obtain ⟨i, hi', rfl⟩ := hc
      exact (hC i (List.mem_range.1 hi')).2.2

/-- A list of lists of cells, opened. -/
theorem open_cellss {fuel : Nat} {cs : List Value} {x : DataW H × List MemPlace} (h : DataW.trod enc Tryd.prog w base spare held fuel 30 cs = some x) (hw : (x.1.weights Tryd.prog 30).all (· ≤ reachBytes) = true) :
    ∃ (v : Value) (l : List (List Cl)), cs = [v] ∧ SeesTT w v l ∧ (∀ t ∈ l, TextsOk t ∧ ∀ c ∈ t, fits c) ∧ l.length ≤ 140737488355328 := by
  rcases open_slice1 Tryd.underlying30 (by kernel_rfl) h with ⟨rfl, rfl⟩ | ⟨a, len, cap, m, n, V, D, Pl, rfl, hb, hl, hm, hmm, rfl, hi⟩
  · exact ⟨_, [], rfl, ⟨none, 0, rfl, Nat.le_refl _, fun h => absurd rfl h⟩, fun c hc => (by cases hc), Nat.zero_le _⟩
  · have hlm : len ≤ m := by rw [hmm]; split <;> omega
    have hall : ∀ i, i < len → ∃ t : List Cl, SeesT w (V i) t ∧ TextsOk t ∧ ∀ c ∈ t, fits c := by
      intro i hil
      obtain ⟨v, t, e, h1, h2, h3⟩ := open_cells (hi i (by omega)).2 (List.all_eq_true.2 fun n hn => List.all_eq_true.1 hw n (by
        rw [DataW.weights]
        simp only [Tryd.underlying30]
        exact List.mem_cons_of_mem _ (List.mem_append_left _ (weightsAll_mem (d := D i) (List.mem_map.2 ⟨i, List.mem_range.2 hil, rfl⟩) hn))))
      obtain rfl : V i = v := by simpa using e
      exact ⟨t, h1, h2, h3⟩
    obtain ⟨C, hC⟩ := choose_lt hall
    have ht : ((List.range len).map C).length = len := by simp
    refine ⟨_, (List.range len).map C, rfl, ⟨some a, cap, by rw [ht], by rw [ht]; exact hl, fun hne => ⟨a, rfl, ?_, fun j hj => ?_⟩⟩, fun t htm => ?_, ?_⟩
    · have h0 : 0 < len := by
        rcases Nat.eq_zero_or_pos len with h | h
        · subst h; simp at hne
        · exact h
      exact cell_lt (hi 0 (by omega)).1
    · have hj' : j < len := by rw [ht] at hj; exact hj
      refine ⟨V j, (hi j (by omega)).1, ?_⟩
      have := (hC j hj').1
      simpa using this
    · rw [List.mem_map] at htm
      obtain ⟨i, hi', rfl⟩ := htm
      exact (hC i (List.mem_range.1 hi')).2
    · rw [ht]
      have := List.all_eq_true.1 hw ((((List.range len).map D).length + ((List.range (m - len)).map fun j => D (len + j)).length) * Tryd.prog.bytesOf 23) (by
        rw [DataW.weights]
        simp only [Tryd.underlying30]
        exact List.mem_cons_self)
      have e : Tryd.prog.bytesOf 23 = 24 := by kernel_rfl
      rw [e] at this
      have h2 := reachBytes_lt
      simp only [decide_eq_true_eq, List.length_map, List.length_range] at this
      omega
end
end Go.Proofs.YtebdikbngnolbaaDoor
