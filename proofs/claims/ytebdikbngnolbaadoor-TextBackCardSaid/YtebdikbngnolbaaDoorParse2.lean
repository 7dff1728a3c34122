/- Walks: Parse. -/
import Derived.Test.YtebdikbngnolbaaDoorParse1
import Derived.OwnWalk
import Derived.Test.YtebdikbngnolbaaDoorTermN
namespace Go.Proofs.YtebdikbngnolbaaDoor
open Go.RowKit Txt
set_option linter.unusedVariables false
set_option linter.unusedSimpArgs false

theorem clip_calls (A : Option Addr) (n cap : Nat) (w : World) (h : n ≤ cap) :
    Calls Tryd.prog 19 #[.slice A n cap] w fun e w' => e = .returned (.slice A n n) ∧ w' = w := by
  go_enter Tryd.func19, Tryd.ntmps19
  go_wp2
  go_ret
  exact ⟨rfl, rfl⟩

theorem heap3 (w : World) (o1 o2 o3 : Obj) : (((w.alloc o1).alloc o2).alloc o3).heap[w.heap.size]? = some o1 ∧ (((w.alloc o1).alloc o2).alloc o3).heap[w.heap.size + 1]? = some o2 ∧ (((w.alloc o1).alloc o2).alloc o3).heap[w.heap.size + 2]? = some o3 := by
  refine ⟨?_, ?_, ?_⟩
  · rw [Below.heap_alloc _ _ _ (by simp; omega), Below.heap_alloc _ _ _ (by simp), heap_alloc_new]
  · rw [Below.heap_alloc _ _ _ (by simp)]
    have := heap_alloc_new (w.alloc o1) o2
    simpa using this
  · have := heap_alloc_new ((w.alloc o1).alloc o2) o3
    simpa using this

theorem parse1_ne (s : ByteArray) : ∀ c a, parse1 s = .bad c a → c ≠ 0 := by
  intro c a h
  unfold parse1 at h
  split at h
  · rename_i ht
    cases h; exact term_ne ht
  · split at h
    · cases h; decide
    · split at h <;> cases h
      decide

/-- What comes of Parse. -/
def ParseOut (w : World) (r : List Cl × Int × Nat) (e : Ending) (w' : World) : Prop :=
  ∃ x, e = .returned (.tuple #[x, .int .i64 r.2.1, .int .i64 (r.2.2 : Int)]) ∧ SeesT w' x r.1 ∧ Below w.heap.size w w'

theorem parse_1 (s : ByteArray) (h : s.size ≤ 65536) : parse s = match parse1 s with | .bad e a => ([], e, a) | .ok t _ => (t, 0, 0) := by
  unfold parse parse1
  rw [if_neg (by omega)]
  generalize term (fuel s 0) s 0 = R
  cases R with
  | bad e a => rfl
  | ok t q =>
    simp only
    by_cases h1 : skip s q < s.size
    · rw [if_pos h1, if_pos h1]
    · rw [if_neg h1, if_neg h1]
      by_cases h2 : t.length > 1024
      · rw [if_pos h2, if_pos h2]
      · rw [if_neg h2, if_neg h2]

theorem results_parse (gt : Nat) (A : Option Addr) (n c : Nat) (tmps : Array Value) (w : World) (hp : tmps[2]?.getD undef = .pointer (some ⟨gt, 0, none⟩)) (hc : w.cell? ⟨gt, 0, none⟩ = some (.slice A n c)) :
    (results Tryd.f6 tmps).run Tryd.prog w = .ok (.tuple #[.slice A n c, tmps[3]?.getD undef, tmps[4]?.getD undef]) w := by
  simp [results, Tryd.results6, hp, hc, go_sem]

set_option maxHeartbeats 2000000 in
set_option maxRecDepth 100000 in
theorem parse_calls (s : ByteArray) (w : World) (ht : Tabs w) (hs : s.size ≤ 140737488355328) :
    Calls Tryd.prog 6 #[.string s] w (ParseOut w (parse s)) := by
  have hmf : ∀ (fn : Fn) (first cap : Array Value) (w : World), (Instr.makeFunc fn first cap).run Tryd.prog w = .ok (.func fn first cap) w := fun _ _ _ _ => rfl
  have HT := Lib.hid ht; clear ht
  by_cases hbig : s.size > 65536
  · have e : parse s = ([], 4, 0) := by unfold parse; rw [if_pos hbig]
    rw [e]; clear e
    go_enter Tryd.func6, Tryd.ntmps6
    go_wp2
    refine bodyPost_ret (results_parse (w.heap.size + 1) none 0 0 _ _ rfl (by simp)) rfl ?_
    exact ⟨_, rfl, ⟨none, 0, rfl, Nat.le_refl _, fun h => absurd rfl h⟩, ((Below.refl _ _).alloc (Nat.le_refl _) _).alloc (by simp) _⟩
  · rw [parse_1 s (by omega)]
    have hv : V1 w.heap.size (w.heap.size + 2) w.heap.size (w.heap.size + 1) s (((w.alloc (.cells #[.string s] 9)).alloc (.cells #[.slice none 0 0] 23)).alloc (.cells #[.int .i64 0, .int .i64 0] 42)) := by
      obtain ⟨h0, h1, h2⟩ := heap3 w (.cells #[.string s] 9) (.cells #[.slice none 0 0] 23) (.cells #[.int .i64 0, .int .i64 0] 42)
      refine ⟨?_, ?_, ?_, ?_, ?_, ?_, ?_, ?_, ?_, ?_, ?_, ⟨.slice none 0 0, ?_⟩, ?_, ?_, ?_⟩
      all_goals first | omega | (simp; done) | (simp; omega) | (simp only [World.cell?, World.frozen?, h0, h1, h2]; rfl)
    have hb : Below w.heap.size w (((w.alloc (.cells #[.string s] 9)).alloc (.cells #[.slice none 0 0] 23)).alloc (.cells #[.int .i64 0, .int .i64 0] 42)) := (((Below.refl _ _).alloc (Nat.le_refl _) _).alloc (by simp) _).alloc (by simp; omega) _
    have hcall := parse1_calls w.heap.size (w.heap.size + 2) w.heap.size (w.heap.size + 1) s _ hv (by omega) (HT.out.below hb) (by simp; omega)
    have hne : ∀ c a, parse1 s = .bad c a → c ≠ 0 := parse1_ne s
    generalize parse1 s = R at *
    have HNE := Lib.hid hne; clear hne
    have HC := Lib.hid hcall; clear hcall
    have HB := Lib.hid hb; clear hb
    have HV := Lib.hid hv; clear hv
    go_enter Tryd.func6, Tryd.ntmps6
    go_wp2_with fail
    refine (HC.out).mono ?_
    intro e w1 h1
    obtain ⟨rfl, hb1, hz, ⟨v, hv, ho⟩, hok, hbad⟩ := h1
    have HB1 := Lib.hid hb1; clear hb1
    cases R with
    | bad c a =>
      obtain ⟨k0, k1⟩ := hbad c a rfl
      have hcne := HNE.out c a rfl
      have hcn : (c != 0) = true := by simpa using hcne
      clear hok hbad ho HNE hcne
      simp only
      go_wp2_with fail
      go_region
      all_goals
        go_wp2
        refine bodyPost_ret (results_parse (w.heap.size + 1) none 0 0 _ _ rfl (cell_eq hv _)) rfl ?_
        exact ⟨_, rfl, ⟨none, 0, rfl, Nat.le_refl _, fun h => absurd rfl h⟩, ((HB.out.trans HB1.out).setCell (p := ⟨w.heap.size + 1, 0, none⟩) (by simp) _).drew⟩
    | ok t q =>
      obtain ⟨k0, k1⟩ := hok t q rfl
      have hx := (ho t q rfl).sees
      have hge := (ho t q rfl).own_ge
      clear hok hbad ho HNE
      simp only
      obtain ⟨A, xc, rfl, hxc, hA⟩ := hx
      have hfin : SeesT (w1.setCell ⟨w.heap.size + 1, 0, none⟩ (.slice A t.length t.length)) (.slice A t.length t.length) t := by
        refine SeesT.keep (w := w1) ⟨A, t.length, rfl, Nat.le_refl _, hA⟩ ?_
        rintro ad ⟨n, c, he⟩ hlt
        simp only [Value.slice.injEq] at he
        obtain ⟨rfl, -, -⟩ := he
        have := hge ad.block rfl
        exact Below.heap_setCell _ _ _ _ (by simp at this ⊢; omega)
      have HF := Lib.hid hfin; clear hfin hA hge
      go_wp2_with fail
      refine (clip_calls A t.length xc _ hxc).mono ?_
      rintro e w2 ⟨rfl, rfl⟩
      go_wp2
      refine bodyPost_ret (results_parse (w.heap.size + 1) A t.length t.length _ _ rfl (cell_eq hv _)) rfl ?_
      exact ⟨_, rfl, HF.out, (HB.out.trans HB1.out).setCell (p := ⟨w.heap.size + 1, 0, none⟩) (by simp) _⟩
end Go.Proofs.YtebdikbngnolbaaDoor
