/- Events as cells: a slice of events is read. -/
import Derived.Test.YtejpdfenejbjdaaGreatDoorTrB
namespace Go.Proofs.YtejpdfenejbjdaaGreatDoor
open Go.RowKit Txt
set_option linter.unusedVariables false
set_option linter.unusedSimpArgs false

def ec (e : Ev) (x : Value) : List Value := [.int .i64 e.kind, .int .i64 e.tick, .int .i64 e.pid, .int .i64 e.by_, x]
def ecs (ps : List (Ev × Value)) : List Value := ps.flatMap fun p => ec p.1 p.2
theorem ecs_append (t u : List (Ev × Value)) : ecs (t ++ u) = ecs t ++ ecs u := by simp [ecs]
theorem ecs_length (t : List (Ev × Value)) : (ecs t).length = t.length * 5 := by
  induction t with
  | nil => rfl
  | cons c t ih => simp only [ecs, List.flatMap_cons, List.length_append, List.length_cons] at *; rw [ih]; simp [ec]; omega
theorem ecs_at (t : List (Ev × Value)) : ∀ (i j : Nat) (h : i < t.length), j < 5 → (ecs t)[i * 5 + j]? = (ec t[i].1 t[i].2)[j]? := by
  induction t with
  | nil => intro i j h; simp at h
  | cons c t ih =>
    intro i j h hj
    have e : ecs (c :: t) = ec c.1 c.2 ++ ecs t := by simp [ecs]
    rw [e]
    cases i with
    | zero =>
      rw [List.getElem?_append_left (by simp [ec]; omega)]
      simp
    | succ i =>
      rw [List.getElem?_append_right (by simp [ec]; omega)]
      have : (i + 1) * 5 + j - (ec c.1 c.2).length = i * 5 + j := by simp [ec]; omega
      rw [this, ih i j (by simpa using h) hj]
      simp
/-- A slice of events is read. -/
def SeesE (w : World) (x : Value) (ps : List (Ev × Value)) : Prop :=
  ∃ A cap, x = .slice A ps.length cap ∧ ps.length ≤ cap ∧ (ps ≠ [] → ∃ ad, A = some ad ∧ ∀ j u, (ecs ps)[j]? = some u → w.cell? (ad.add j) = some u)
theorem SeesE.at {w : World} {x : Value} {t : List (Ev × Value)} (h : SeesE w x t) (i : Nat) (hi : i < t.length) :
    ∃ ad cap, x = .slice (some ad) t.length cap ∧ t.length ≤ cap ∧ ad.block < w.heap.size ∧ w.cell? (ad.add (i * 5)) = some (.int .i64 t[i].1.kind) ∧ w.cell? ⟨(ad.add (i * 5)).block, (ad.add (i * 5)).off + 1, none⟩ = some (.int .i64 t[i].1.tick) ∧
      w.cell? ⟨(ad.add (i * 5)).block, (ad.add (i * 5)).off + 2, none⟩ = some (.int .i64 t[i].1.pid) ∧ w.cell? ⟨(ad.add (i * 5)).block, (ad.add (i * 5)).off + 3, none⟩ = some (.int .i64 t[i].1.by_) ∧
      w.cell? ⟨(ad.add (i * 5)).block, (ad.add (i * 5)).off + 4, none⟩ = some t[i].2 := by
  obtain ⟨A, cap, rfl, hcap, hA⟩ := h
  obtain ⟨ad, rfl, hc⟩ := hA (by intro e; subst e; simp at hi)
  have h0 := hc (i * 5) _ ((ecs_at t i 0 hi (by omega)).trans rfl)
  refine ⟨ad, cap, rfl, hcap, ?_, h0, ?_, ?_, ?_, ?_⟩
  · have := cell_lt h0; rwa [add_block] at this
  · rw [← add_at _ _ 1 (by omega)]; exact hc _ _ ((ecs_at t i 1 hi (by omega)).trans rfl)
  · rw [← add_at _ _ 2 (by omega)]; exact hc _ _ ((ecs_at t i 2 hi (by omega)).trans rfl)
  · rw [← add_at _ _ 3 (by omega)]; exact hc _ _ ((ecs_at t i 3 hi (by omega)).trans rfl)
  · rw [← add_at _ _ 4 (by omega)]; exact hc _ _ ((ecs_at t i 4 hi (by omega)).trans rfl)
theorem SeesE.below {w w' : World} {x : Value} {t : List (Ev × Value)} (h : SeesE w x t) (hb : Below w.heap.size w w') : SeesE w' x t := by
  obtain ⟨A, cap, rfl, hcap, hA⟩ := h
  refine ⟨A, cap, rfl, hcap, fun hne => ?_⟩
  obtain ⟨ad, rfl, hc⟩ := hA hne
  exact ⟨ad, rfl, fun j u hu => (hb.cell (cell_lt (hc j u hu))).trans (hc j u hu)⟩
theorem ec_oneCell (e : Ev) (A : Option Addr) (n c : Nat) : ∀ u ∈ ec e (.slice A n c), u.oneCell' = true := by
  intro u hu
  simp only [ec, List.mem_cons, List.not_mem_nil, or_false] at hu
  rcases hu with rfl | rfl | rfl | rfl | rfl <;> rfl
theorem info_ev : (Tryz.prog.info? 24).map (fun i => (i.zero, i.size, i.bytes)) = some (some (.agg #[.int .i64 0, .int .i64 0, .int .i64 0, .int .i64 0, .slice none 0 0]), 5, 56) := by kernel_rfl
theorem own_keepE {base n : Nat} {w w' : World} {x : Value} {xs : List Value} (h : w.ownsRow base 24 5 x n xs) (hk : ∀ g, base ≤ g → x.ownBlock = some g → g < w.heap.size → w'.heap[g]? = w.heap[g]?) : w'.ownsRow base 24 5 x n xs := by
  obtain ⟨hl, h0 | ⟨g, cap, cur, rfl, hg, hh, q⟩⟩ := h
  · exact ⟨hl, .inl h0⟩
  · refine ⟨hl, .inr ⟨g, cap, cur, rfl, hg, ?_, q⟩⟩
    rw [hk g hg rfl (Array.getElem?_eq_some_iff.1 hh).1]
    exact hh
end Go.Proofs.YtejpdfenejbjdaaGreatDoor
