/- Arguments that are cells, events, numbers, opened; the listed variables; a start. -/
import Derived.Test.YtejpdfenejbjdaaGreatDoorTrK
import Derived.Test.YtejpdfenejbjdaaGreatDoorBackA
import Derived.Test.YtejpdfenejbjdaaGreatDoorStart
import Derived.ProofKit
import Derived.OpenShut
import Derived.Deep.Slices
import Derived.Deep.Strs
import Derived.SizedLaws
import Derived.LaidLaws
import Derived.HandedShaped
import Derived.Shelf.Vars
namespace Go.Proofs.YtejpdfenejbjdaaGreatDoor
open Go.ChangeShapes Go.WideShapes Go.ChangeAt Go.RowKit Go.Lib Go.Deep Txt
set_option linter.unusedVariables false
set_option linter.unusedSimpArgs false

section
variable {H : Type} {enc : TypeId × Value → H} {w : World} {base : Nat} {spare : Nat → Bool} {held : Bool}

theorem weightsAll_mem {P : Program} {e : TypeId} : ∀ {ds : List (DataW H)} {d : DataW H} {n : Nat}, d ∈ ds → n ∈ d.weights P e → n ∈ DataW.weightsAll P e ds
  | d0 :: ds, d, n, hd, hn => by
    simp only [DataW.weightsAll, List.mem_append]
    rw [List.mem_cons] at hd
    rcases hd with rfl | hd
    · exact .inl hn
    · exact .inr (weightsAll_mem hd hn)
theorem three_of {α : Type} : ∀ {l : List α}, l.length = 3 → ∃ a b c, l = [a, b, c]
  | [a, b, c], _ => ⟨a, b, c, rfl⟩
theorem five_of {α : Type} : ∀ {l : List α}, l.length = 5 → ∃ a b c d e, l = [a, b, c, d, e]
  | [a, b, c, d, e], _ => ⟨a, b, c, d, e, rfl⟩
/-- A cell's datum. -/
def dcl (c : Cl) : DataW H := .agg [.lit (.int .i64 c.kind), .lit (.int .i64 c.n), .lit (.string c.text.data.toList)]
theorem trod_cl {fuel : Nat} {cs : List Value} {x : DataW H × List MemPlace} (h : DataW.trod enc Tryz.prog w base spare held fuel 74 cs = some x) : ∃ c : Cl, cs = cv c ∧ x.1 = dcl c ∧ fits c := by
  obtain ⟨y0, y1, y2, n, rfl, hl, h0, h1, h2⟩ := trod_struct3 Tryz.underlying74 h
  have hlen : cs.length = 3 := hl.trans (by kernel_rfl)
  have z0 : Tryz.prog.cellsOf 3 = 1 := by kernel_rfl
  have z1 : Tryz.prog.cellsOf 2 = 1 := by kernel_rfl
  have z2 : Tryz.prog.cellsOf 9 = 1 := by kernel_rfl
  clear hl
  obtain ⟨c0, c1, c2, rfl⟩ := three_of hlen
  clear hlen
  dsimp only at h0 h1 h2
  rw [z0] at h0
  rw [z1] at h1
  rw [z2] at h2
  simp only [List.drop_zero, List.drop_succ_cons, List.take_succ_cons, List.take_zero] at h0 h1 h2
  obtain ⟨k, e0, rfl, -⟩ := DataW.trod_int (k := .i64) Tryz.underlying3 h0
  obtain ⟨m, e1, rfl, hw⟩ := DataW.trod_int (k := .i64) Tryz.underlying2 h1
  obtain ⟨s, e2, rfl, -⟩ := DataW.trod_string Tryz.underlying9 h2
  simp only [List.cons.injEq, and_true] at e0 e1 e2
  subst e0 e1 e2
  have b := bounds_i64 hw
  exact ⟨⟨k, m, s⟩, rfl, rfl, b.1, by have := b.2; omega⟩
theorem cl_text {c : Cl} (h : ((dcl c : DataW H).weights Tryz.prog 74).all (· ≤ reachBytes) = true) : c.text.size ≤ 140737488355328 := by
  have := List.all_eq_true.1 h c.text.data.toList.length (by
    unfold dcl
    rw [DataW.weights]
    simp only [Tryz.underlying74]
    simp [DataW.weightsEach, DataW.weights])
  have e : c.text.data.toList.length = c.text.size := by simp
  rw [e] at this
  have h2 := reachBytes_lt
  simp only [decide_eq_true_eq] at this
  omega
/-- A list of cells, opened. -/
theorem open_cells {fuel : Nat} {cs : List Value} {x : DataW H × List MemPlace} (h : DataW.trod enc Tryz.prog w base spare held fuel 22 cs = some x) (hw : (x.1.weights Tryz.prog 22).all (· ≤ reachBytes) = true) :
    ∃ (v : Value) (t : List Cl), cs = [v] ∧ SeesT w v t ∧ TextsOk t ∧ (∀ c ∈ t, fits c) ∧ t.length * 32 ≤ 140737488351232 := by
  rcases open_slice Tryz.underlying22 h with ⟨rfl, rfl⟩ | ⟨a, len, cap, m, n, D, Pl, rfl, hb, hl, hm, hmm, rfl, hi⟩
  · exact ⟨_, [], rfl, ⟨none, 0, rfl, Nat.le_refl _, fun h => absurd rfl h⟩, fun c hc => (by cases hc), fun c hc => (by cases hc), by simp⟩
  · have hlm : len ≤ m := by rw [hmm]; split <;> omega
    have hce : Tryz.prog.cellsOf 74 = 3 := by kernel_rfl
    have hall : ∀ i, i < len → ∃ c : Cl, w.cells? base (a.add (i * 3)) 3 = some (cv c) ∧ D i = dcl c ∧ fits c := by
      intro i hil
      obtain ⟨cs', h1, h2⟩ := hi i (by omega)
      obtain ⟨c, rfl, h3, h4⟩ := trod_cl h2
      rw [hce] at h1
      exact ⟨c, h1, h3, h4⟩
    haveI : Inhabited Cl := ⟨⟨0, 0, .empty⟩⟩
    obtain ⟨C, hC⟩ := choose_lt hall
    have ht : ((List.range len).map C).length = len := by simp
    refine ⟨_, (List.range len).map C, rfl, ⟨some a, cap, by rw [ht], by rw [ht]; exact hl, fun _ => ⟨a, rfl, fun j u hj => ?_⟩⟩, fun c hc => ?_, fun c hc => ?_, ?_⟩
    · have hjl : j < len * 3 := by
        have := (List.getElem?_eq_some_iff.1 hj).1
        rw [cvs_length, ht] at this; exact this
      have hi3 : j / 3 < len := by omega
      have hd : j = (j / 3) * 3 + j % 3 := by omega
      have hcv := cvs_at ((List.range len).map C) (j / 3) (j % 3) (by rw [ht]; exact hi3) (by omega)
      rw [← hd, hj] at hcv
      obtain ⟨_, -, hat⟩ := World.cells?_some (hC _ hi3).1
      have := hat (j % 3) (by omega)
      rw [add_add, ← hd] at this
      rw [this, hcv]
      have eg : ((List.range len).map C)[j / 3]'(by rw [ht]; exact hi3) = C (j / 3) := by simp
      rw [eg]
    · rw [List.mem_map] at hc
      obtain ⟨i, hi', rfl⟩ := hc
      have hil : i < len := List.mem_range.1 hi'
      refine cl_text (H := H) (c := C i) (List.all_eq_true.2 fun n hn => List.all_eq_true.1 hw n ?_)
      rw [DataW.weights]
      simp only [Tryz.underlying22]
      refine List.mem_cons_of_mem _ (List.mem_append_left _ (weightsAll_mem (d := D i) (List.mem_map.2 ⟨i, hi', rfl⟩) ?_))
      rw [(hC i hil).2.1]; exact hn
    · rw [List.mem_map] at hc
      obtain ⟨i, hi', rfl⟩ := hc
      exact (hC i (List.mem_range.1 hi')).2.2
    · rw [ht]
      have := List.all_eq_true.1 hw ((((List.range len).map D).length + ((List.range (m - len)).map fun j => D (len + j)).length) * Tryz.prog.bytesOf 74) (by
        rw [DataW.weights]
        simp only [Tryz.underlying22]
        exact List.mem_cons_self)
      have e : Tryz.prog.bytesOf 74 = 32 := by kernel_rfl
      rw [e] at this
      have h2 : reachBytes = 140737488351232 := by decide
      rw [h2] at this
      simp only [decide_eq_true_eq, List.length_map, List.length_range] at this
      omega
/-- What is known of an event that came in. -/
structure EvIn (w : World) (e : Ev) (A : Option Addr) (c : Nat) : Prop where
  sees : SeesT w (.slice A e.term.length c) e.term
  texts : TextsOk e.term
  fits : ∀ c ∈ e.term, fits c
  tick : fit64 e.tick
  pid : fit64 e.pid
  by_ : fit64 e.by_
  len : e.term.length * 32 ≤ 140737488351232
theorem fit_of {n : Int} (h : (Lit.int .i64 n).wf = true) : fit64 n := by
  have b := bounds_i64 h
  unfold fit64
  omega
/-- An event, opened. -/
theorem trod_ev {fuel : Nat} {cs : List Value} {x : DataW H × List MemPlace} (h : DataW.trod enc Tryz.prog w base spare held fuel 24 cs = some x) (hw : (x.1.weights Tryz.prog 24).all (· ≤ reachBytes) = true) :
    ∃ (e : Ev) (A : Option Addr) (c : Nat), cs = [.int .i64 e.kind, .int .i64 e.tick, .int .i64 e.pid, .int .i64 e.by_, .slice A e.term.length c] ∧ EvIn w e A c := by
  obtain ⟨xs, n, -, rfl, hl, hlen, hf⟩ := DataW.trod_struct Tryz.underlying24 h
  have hlen5 : cs.length = 5 := hl.trans (by kernel_rfl)
  have hx5 : xs.length = 5 := hlen
  have z0 : Tryz.prog.cellsOf 3 = 1 := by kernel_rfl
  have z1 : Tryz.prog.cellsOf 2 = 1 := by kernel_rfl
  have z2 : Tryz.prog.cellsOf 22 = 1 := by kernel_rfl
  clear hl hlen
  obtain ⟨c0, c1, c2, c3, c4, rfl⟩ := five_of hlen5
  obtain ⟨y0, y1, y2, y3, y4, rfl⟩ := five_of hx5
  clear hlen5 hx5
  have h0 : DataW.trod enc Tryz.prog w base spare held n 3 (([c0, c1, c2, c3, c4].drop 0).take (Tryz.prog.cellsOf 3)) = some y0 := hf 0 _ rfl
  have h1 : DataW.trod enc Tryz.prog w base spare held n 2 (([c0, c1, c2, c3, c4].drop 1).take (Tryz.prog.cellsOf 2)) = some y1 := hf 1 _ rfl
  have h2 : DataW.trod enc Tryz.prog w base spare held n 2 (([c0, c1, c2, c3, c4].drop 2).take (Tryz.prog.cellsOf 2)) = some y2 := hf 2 _ rfl
  have h3 : DataW.trod enc Tryz.prog w base spare held n 2 (([c0, c1, c2, c3, c4].drop 3).take (Tryz.prog.cellsOf 2)) = some y3 := hf 3 _ rfl
  have h4 : DataW.trod enc Tryz.prog w base spare held n 22 (([c0, c1, c2, c3, c4].drop 4).take (Tryz.prog.cellsOf 22)) = some y4 := hf 4 _ rfl
  clear hf h
  rw [z0] at h0
  rw [z1] at h1 h2 h3
  rw [z2] at h4
  simp only [List.drop_zero, List.drop_succ_cons, List.take_succ_cons, List.take_zero] at h0 h1 h2 h3 h4
  obtain ⟨k, e0, rfl, w0⟩ := DataW.trod_int (k := .i64) Tryz.underlying3 h0
  obtain ⟨t, e1, rfl, w1⟩ := DataW.trod_int (k := .i64) Tryz.underlying2 h1
  obtain ⟨p, e2, rfl, w2⟩ := DataW.trod_int (k := .i64) Tryz.underlying2 h2
  obtain ⟨b, e3, rfl, w3⟩ := DataW.trod_int (k := .i64) Tryz.underlying2 h3
  obtain ⟨v, T, e4, hs, hto, hfi, hln⟩ := open_cells h4 (List.all_eq_true.2 fun n hn => List.all_eq_true.1 hw n (by
    rw [DataW.weights]
    simp only [Tryz.underlying24]
    simp [DataW.weightsEach, hn]))
  simp only [List.cons.injEq, and_true] at e0 e1 e2 e3 e4
  subst e0 e1 e2 e3 e4
  obtain ⟨A, c, rfl, -, -⟩ := id hs
  exact ⟨⟨k, t, p, b, T⟩, A, c, rfl, hs, hto, hfi, fit_of w1, fit_of w2, fit_of w3, hln⟩
end
end Go.Proofs.YtejpdfenejbjdaaGreatDoor

namespace Go.Proofs.YtejpdfenejbjdaaGreatDoor
open Go.ChangeShapes Go.WideShapes Go.ChangeAt Go.RowKit Go.Lib Go.Deep Txt
set_option linter.unusedVariables false
set_option linter.unusedSimpArgs false

theorem err_of_reads {W : World} {name : String} {g ti : Nat} {nm : String} {d : DataW Unit} {ms : Array (String × TypeId)} (hg : Tryz.prog.globalNamed name = some g) (hty : (Tryz.prog.globals[g]?).map (·.type) = some ti) (hi : Tryz.prog.underlying ti = some (.interface ms)) (h : VarReads Tryz.prog W name (.iface nm d)) :
    ∃ te pe, W.cell? ⟨g, 0, none⟩ = some (.iface te pe) := by
  obtain ⟨g', t', cs, fuel, p, hg', hty', hvar, hd⟩ := h
  obtain rfl := Option.some.inj (hg.symm.trans hg')
  obtain rfl := Option.some.inj (hty.symm.trans hty')
  obtain ⟨fuel', u, v, hcs, -, -⟩ := iface_of_trod hi hd
  have hc := World.var?_cell (P := Tryz.prog) (w := W) hg hvar 0
  have : cs[0]? = some (.iface u v) := by
    have := congrArg (fun l => l[0]?) hcs
    simpa using this
  exact ⟨u, v, hc.trans this⟩
theorem tabsT_of {W : World} (hsh : W.ShapedOpen Tryz.prog) (h1 : VarReads Tryz.prog W "unicode/utf8.first" Rows.laid_unicode_utf8_first) (h2 : VarReads Tryz.prog W "unicode/utf8.acceptRanges" Rows.laid_unicode_utf8_acceptRanges)
    (h3 : VarReads Tryz.prog W "internal/strconv.uint64pow10" Rows.laid_internal_strconv_uint64pow10) (h4 : VarReads Tryz.prog W "math/bits.deBruijn64tab" Rows.laid_math_bits_deBruijn64tab)
    (h5 : VarReads Tryz.prog W "strconv.ErrSyntax" Rows.laid_strconv_ErrSyntax) (h6 : VarReads Tryz.prog W "strconv.ErrRange" Rows.laid_strconv_ErrRange) : TabsT W := by
  refine ⟨tabs_of h1 h2 h3 h4, ?_, ?_, ?_⟩
  · exact cell_of_shapedOpen_int (zero := #[.int .i64 0]) (k := .i64) hsh (of_decide_eq_true (by kernel_rfl)) (by kernel_rfl) rfl (by kernel_rfl) (by kernel_rfl) Tryz.underlying3
  · exact err_of_reads (g := 2) (ti := 116) (by kernel_rfl) (by kernel_rfl) Tryz.underlying116 h5
  · exact err_of_reads (g := 3) (ti := 116) (by kernel_rfl) (by kernel_rfl) Tryz.underlying116 h6
/-- A row's contract, its listed variables and the world's shape at hand. -/
theorem row_lift {H : Type} {enc : TypeId × Value → H} {a : Assume} {C : Checked} {os : Os} {f : FuncId} {fn : Func} {s : ChangeSpec} {conds : List PathCond} {apart fresh handsOn again : Bool} {X : World → Prop}
    (hX : ∀ (w w' : World), w.heap = w'.heap → X w → X w')
    (own : ownKnob C.prog.godebug = none) (started : os.Started) (noInit : C.prog.inits.idxOf? f = none) (hfn : C.prog.funcs[f]? = some fn)
    (witness : ∃ (w : World) (tape : Tape) (i : Input), w.os = os ∧ (w.forCall tape i).Shaped C.prog ∧ i.vars = [] ∧ Input.okWide C.prog (w.forCall tape i) .any w.heap.size f i ∧
      ((s.pre enc C.prog fn conds apart (w.forCall tape i).memory i.args ∧ X (w.forCall tape i).memory) ∧ sizedMet enc C.prog fn (OpenSpec.ofChange s) apart (w.forCall tape i).memory i.args) ∧ a.holds C.prog (lone (Frame.enter C.prog f i.args .normal) [] (w.forCall tape i)))
    (contract : ∀ (W : World) (base : Nat) (args : Array Value) (ds gs : List (DataW H)) (before : List MemPlace),
      (∀ (j : Nat) t v, fn.params[j]? = some t → args[j]? = some v → Value.okWide C.prog W .any base t v) →
      DataW.Whole enc C.prog fn.params.toList s.vars apart W args.toList ds gs before →
      (DataW.weightsEach C.prog (fn.params.toList ++ s.plain.varTypes C.prog) (ds ++ gs)).all (· ≤ reachBytes) = true → X W → W.ShapedOpen C.prog →
      Calls C.prog f args W fun e W' => ∃ v, e = .returned v ∧ s.post enc C.prog fn apart fresh handsOn again W args v W') :
    ReturnsInHanded a C os f .any (fun w args => (s.pre enc C.prog fn conds apart w args ∧ X w) ∧ sizedMet enc C.prog fn (OpenSpec.ofChange s) apart w args) (s.post enc C.prog fn apart fresh handsOn again) := by
  refine returnsInHanded_of_calls own started noInit witness ?_
  intro w tape i _ hsh _ hok hpre _
  obtain ⟨_, _, _, fn', hfn', _, _, _, _, hval⟩ := hok
  obtain rfl : fn' = fn := Option.some.inj (hfn'.symm.trans hfn)
  obtain ⟨⟨⟨ds, gs, before, hw, _⟩, hx⟩, hz⟩ := hpre
  refine (contract (w.forCall tape i) w.heap.size i.args ds gs before hval (DataW.Whole.of_heap (w' := w.forCall tape i) (by rfl) hw) (hz.weights hw) (hX _ _ (by rfl) hx) hsh).mono fun e W' ⟨v, he, hp⟩ => ?_
  subst he
  exact ChangeSpec.post_blind hp
theorem start_met (os : Os) (args : Array Value) : laidMetH Tryz.prog Rows.traceNilRow.laid ((startW os).forCall (fun _ _ => 0) ⟨#[], args, []⟩).memory :=
  laidMetH_of_parts3 (fuel := 8) (laidMet_of_run' 8 (by kernel_rfl) (by kernel_rfl)) (by kernel_rfl) (by kernel_rfl)
end Go.Proofs.YtejpdfenejbjdaaGreatDoor
