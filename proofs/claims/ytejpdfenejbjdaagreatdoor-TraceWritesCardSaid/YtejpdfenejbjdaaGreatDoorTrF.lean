/- Walks: trace: a pid's text; an event's line. -/
import Derived.Test.YtejpdfenejbjdaaGreatDoorTrB
import Derived.Test.YtejpdfenejbjdaaGreatDoorLeaf
import Derived.Test.YtejpdfenejbjdaaGreatDoorPrint
import Derived.Deep.RegionHeld3
namespace Go.Proofs.YtejpdfenejbjdaaGreatDoor
open Go.RowKit Txt
set_option linter.unusedVariables false
set_option linter.unusedSimpArgs false

def fit64 (n : Int) : Prop := -9223372036854775808 ≤ n ∧ n ≤ 9223372036854775807
/-- A pid's text. -/
def whoB (n : Int) : List UInt8 := if n = 0 then [45] else 60 :: (Lib.itoa n ++ [62])
theorem whoB_len (n : Int) (h : fit64 n) : (whoB n).length ≤ 23 := by
  have := Lib.itoa_length_le n h.1 h.2
  unfold whoB
  split
  · simp
  · simp; omega

theorem who_calls (n : Int) (w : World) (h : fit64 n) (ht : Tabs w) :
    Calls Tryz.prog 48 #[.int .i64 n] w fun e w' => e = .returned (.string (Txt.bytes (whoB n))) ∧ Below w.heap.size w w' := by
  have HT := Lib.hid ht; clear ht
  have HF := Lib.hid h; clear h
  by_cases h0 : n = 0
  · subst h0
    go_enter Tryz.func48, Tryz.ntmps48
    go_wp2
    go_ret
    exact ⟨rfl, Below.refl _ _⟩
  · have hn : (n == 0) = false := by simpa using h0
    have e : whoB n = [60] ++ Lib.itoa n ++ [62] := by unfold whoB; rw [if_neg h0]; simp
    rw [e]; clear e h0
    have hsz : (Txt.bytes (Lib.itoa n)).size ≤ 21 := itoa_size n HF.out
    have HDEF : Hid ((⟨(Lib.itoa n).toArray⟩ : ByteArray) = Txt.bytes (Lib.itoa n)) := Lib.hid rfl
    have hz2 : (({ data := #[60] } : ByteArray) ++ Txt.bytes (Lib.itoa n)).size ≤ 100 := by
      rw [ByteArray.size_append]; have : (({ data := #[60] } : ByteArray)).size = 1 := rfl; omega
    have hz3 : (({ data := #[60] } : ByteArray) ++ Txt.bytes (Lib.itoa n)) ++ ({ data := #[62] } : ByteArray) = Txt.bytes ([60] ++ Lib.itoa n ++ [62]) := by
      apply ByteArray.ext; simp [Txt.bytes]
    have HZ3 := Lib.hid hz3; clear hz3
    go_enter Tryz.func48, Tryz.ntmps48
    go_wp2_with fail
    refine (Tryz.strconv_FormatInt_10 n HF.out.1 HF.out.2 _ HT.out.pow).mono ?_
    rintro e w1 ⟨rfl, kk, os, rfl⟩
    have HB := Lib.hid (Lib.below_grow w.heap.size w (Nat.le_refl _) kk os)
    rw [HDEF.out]
    go_wp2
    go_ret
    exact ⟨congrArg (fun z => Ending.returned (.string z)) HZ3.out, HB.out⟩
theorem rpid_calls (n : Int) (w : World) (h : fit64 n) (ht : Tabs w) :
    Calls Tryz.prog 51 #[.int .i64 n] w fun e w' => e = .returned (.string (Txt.bytes (32 :: whoB n))) ∧ Below w.heap.size w w' := by
  have HT := Lib.hid ht; clear ht
  have HF := Lib.hid h; clear h
  by_cases h0 : n = 0
  · subst h0
    go_enter Tryz.func51, Tryz.ntmps51
    go_wp2
    go_ret
    exact ⟨rfl, Below.refl _ _⟩
  · have hn : (n == 0) = false := by simpa using h0
    have e : 32 :: whoB n = [32, 60] ++ Lib.itoa n ++ [62] := by unfold whoB; rw [if_neg h0]; simp
    rw [e]; clear e h0
    have hsz : (Txt.bytes (Lib.itoa n)).size ≤ 21 := itoa_size n HF.out
    have HDEF : Hid ((⟨(Lib.itoa n).toArray⟩ : ByteArray) = Txt.bytes (Lib.itoa n)) := Lib.hid rfl
    have hz2 : (({ data := #[32, 60] } : ByteArray) ++ Txt.bytes (Lib.itoa n)).size ≤ 100 := by
      rw [ByteArray.size_append]; have : (({ data := #[32, 60] } : ByteArray)).size = 2 := rfl; omega
    have hz3 : (({ data := #[32, 60] } : ByteArray) ++ Txt.bytes (Lib.itoa n)) ++ ({ data := #[62] } : ByteArray) = Txt.bytes ([32, 60] ++ Lib.itoa n ++ [62]) := by
      apply ByteArray.ext; simp [Txt.bytes]
    have HZ3 := Lib.hid hz3; clear hz3
    go_enter Tryz.func51, Tryz.ntmps51
    go_wp2_with fail
    refine (Tryz.strconv_FormatInt_10 n HF.out.1 HF.out.2 _ HT.out.pow).mono ?_
    rintro e w1 ⟨rfl, kk, os, rfl⟩
    have HB := Lib.hid (Lib.below_grow w.heap.size w (Nat.le_refl _) kk os)
    rw [HDEF.out]
    go_wp2
    go_ret
    exact ⟨congrArg (fun z => Ending.returned (.string z)) HZ3.out, HB.out⟩

/-- A line up to the term. -/
def evHead (e : Ev) (r : TRow) : List UInt8 := Lib.itoa e.tick ++ [32] ++ r.word.data.toList ++ (if r.by_ then 32 :: whoB e.by_ else []) ++ (if r.pid then 32 :: whoB e.pid else [])
def evPrint (e : Ev) : List UInt8 × Int :=
  if evRight e ≠ 0 then ([], evRight e) else
  match trow e.kind with
  | none => ([], 1)
  | some r => if e.term.length > 0 then (if (print e.term).2 ≠ 0 then ([], (print e.term).2) else (evHead e r ++ 32 :: (print e.term).1, 0)) else (evHead e r, 0)

/-- What holds in the midst of a line: the event and its row lie where they lay. -/
structure PH (w : World) (gr : Nat) (e : Ev) (x : Value) (r : TRow) (fv : Value) (W : World) : Prop where
  ev : EvAt W w.heap.size e x
  lr : gr < W.heap.size
  r0 : W.cell? ⟨gr, 0, none⟩ = some (.string r.word)
  r1 : W.cell? ⟨gr, 1, none⟩ = some (.bool r.pid)
  r2 : W.cell? ⟨gr, 2, none⟩ = some (.bool r.by_)
  be : Below w.heap.size w W
theorem PH.below {w : World} {gr : Nat} {e : Ev} {x : Value} {r : TRow} {fv : Value} {W W' : World} (h : PH w gr e x r fv W) (hb : Below W.heap.size W W') : PH w gr e x r fv W' :=
  ⟨h.ev.below hb, Nat.lt_of_lt_of_le h.lr hb.size, (hb.cell (p := ⟨gr, 0, none⟩) h.lr).trans h.r0, (hb.cell (p := ⟨gr, 1, none⟩) h.lr).trans h.r1, (hb.cell (p := ⟨gr, 2, none⟩) h.lr).trans h.r2, h.be.trans (hb.mono h.be.size)⟩
theorem PH.grew {w : World} {gr : Nat} {e : Ev} {x : Value} {r : TRow} {fv : Value} {W W' : World} (h : PH w gr e x r fv W) {kk : Nat} {os : Array Obj} (hw : W' = Sort.grow (W.drewN kk) os) : PH w gr e x r fv W' := h.below (hw ▸ Lib.below_grow _ _ (Nat.le_refl _) kk os)
theorem PH.alloc {w : World} {gr : Nat} {e : Ev} {x : Value} {r : TRow} {fv : Value} {W : World} (h : PH w gr e x r fv W) (o : Obj) : PH w gr e x r fv (W.alloc o) := h.below ((Below.refl _ _).alloc (Nat.le_refl _) _)
theorem PH.both {w : World} {gr : Nat} {k tick pid bb : Int} {t : List Cl} {x : Value} {wd : ByteArray} {rp rb nb : Bool} {tk : Nat} {fv : Value} {W : World} (h : PH w gr ⟨k, tick, pid, bb, t⟩ x ⟨wd, rp, rb, nb, tk⟩ fv W) :
    W.cell? ⟨w.heap.size, 1, none⟩ = some (.int .i64 tick) ∧ W.cell? ⟨gr, 0, none⟩ = some (.string wd) ∧ PH w gr ⟨k, tick, pid, bb, t⟩ x ⟨wd, rp, rb, nb, tk⟩ fv W := ⟨h.ev.c1, h.r0, h⟩
theorem ph_new {w w2 : World} {e : Ev} {x fv : Value} {r : TRow} (he : EvAt w2 w.heap.size e x) (hb : Below w.heap.size w w2) :
    PH w w2.heap.size e x r fv (w2.alloc (.cells #[.string r.word, .bool r.pid, .bool r.by_, .bool r.nobody, fv] 63)) := by
  have hal := (Below.refl w2.heap.size w2).alloc (Nat.le_refl _) (.cells #[.string r.word, .bool r.pid, .bool r.by_, .bool r.nobody, fv] 63)
  refine ⟨he.below hal, by simp, ?_, ?_, ?_, hb.trans (hal.mono hb.size)⟩
  all_goals
    simp only [World.cell?, heap_alloc_new]
    rfl

/-- The parts of a line, in a row that the call owns. -/
structure PL (w : World) (gr base : Nat) (e : Ev) (x : Value) (r : TRow) (fv : Value) (v : Value) (ss : List ByteArray) (W : World) : Prop where
  ph : PH w gr e x r fv W
  own : W.ownsRow base 9 1 v ss.length (ss.map .string)
  le : base ≤ W.heap.size
  le1 : w.heap.size < base
  le2 : gr < base
theorem PL.below {w : World} {gr base : Nat} {e : Ev} {x : Value} {r : TRow} {fv v : Value} {ss : List ByteArray} {W W' : World} (h : PL w gr base e x r fv v ss W) (hb : Below W.heap.size W W') : PL w gr base e x r fv v ss W' := by
  refine ⟨h.ph.below hb, ?_, Nat.le_trans h.le hb.size, h.le1, h.le2⟩
  obtain ⟨hl, h0 | ⟨g, cap, cur, rfl, hg, hh, q⟩⟩ := h.own
  · exact ⟨hl, .inl h0⟩
  · refine ⟨hl, .inr ⟨g, cap, cur, rfl, hg, ?_, q⟩⟩
    rw [hb.block g]
    · exact hh
    · rcases Nat.lt_or_ge g W.heap.size with h' | h'
      · exact h'
      · rw [Array.getElem?_eq_none h'] at hh; cases hh
theorem PL.more {w : World} {gr base : Nat} {e : Ev} {x : Value} {r : TRow} {fv v v' : Value} {ss : List ByteArray} {u : ByteArray} {W W' : World} {o : Obj} (h : PL w gr base e x r fv v ss W) (hown : W'.ownsRow base 9 1 v' (ss.length + 1) (ss.map .string ++ [.string u])) (hg : (W.alloc o).grownBy W' v.ownBlock) :
    PL w gr base e x r fv v' (ss ++ [u]) W' := by
  have hal := (Below.refl W.heap.size W).alloc (Nat.le_refl _) o
  have hge : ∀ g, v.ownBlock = some g → base ≤ g := fun g hgg => (World.ownsRow.lt h.own g hgg).1
  have blk : ∀ k, k < base → W'.heap[k]? = W.heap[k]? := fun k hk => (hg.block k (by have := h.le; simp; omega) (fun e => by have := hge k e.symm; omega)).trans (Below.heap_alloc _ _ _ (by have := h.le; omega))
  have hs : W.heap.size ≤ W'.heap.size := by have := hg.size; simp at this; omega
  have h1 := h.le1
  have h2 := h.le2
  refine ⟨⟨h.ph.ev.keep hs (blk _ h1), Nat.lt_of_lt_of_le h.ph.lr hs, ?_, ?_, ?_, ?_⟩, ?_, Nat.le_trans h.le hs, h.le1, h.le2⟩
  · exact (World.cell?_of_block (w := W) (blk gr h2)).trans h.ph.r0
  · exact (World.cell?_of_block (w := W) (blk gr h2)).trans h.ph.r1
  · exact (World.cell?_of_block (w := W) (blk gr h2)).trans h.ph.r2
  · exact ⟨hg.os.trans h.ph.be.os, hg.tape.trans h.ph.be.tape, hg.output.trans h.ph.be.output, Nat.le_trans h.ph.be.size hs, fun k hk => (blk k (by omega)).trans (h.ph.be.block k hk)⟩
  · rw [List.length_append, List.map_append]; exact hown
theorem pl_new {w : World} {gr : Nat} {e : Ev} {x : Value} {r : TRow} {fv : Value} {a b : ByteArray} {W : World} (h : PH w gr e x r fv W) :
    PL w gr W.heap.size e x r fv (.slice (some ⟨W.heap.size, 0, none⟩) 2 2) [a, b] (W.alloc (.cells #[.string a, .string b] 9)) := by
  refine ⟨h.alloc _, ⟨by simp, .inr ⟨W.heap.size, 2, _, rfl, Nat.le_refl _, heap_alloc_new W _, Nat.le_refl _, by decide, rfl, ?_⟩⟩, by simp, h.ev.lt, h.lr⟩
  simp
theorem own_form {W : World} {base n : Nat} {v : Value} {xs : List Value} (h : W.ownsRow base 9 1 v n xs) (hn : 0 < n) : ∃ g cap, v = .slice (some ⟨g, 0, none⟩) n cap ∧ n ≤ cap := by
  obtain ⟨-, ⟨rfl, h0⟩ | ⟨g, cap, cur, rfl, -, -, hc, -⟩⟩ := h
  · omega
  · exact ⟨g, cap, rfl, hc⟩
theorem own_cap {W : World} {base n cap : Nat} {a : Option Addr} {xs : List Value} (h : W.ownsRow base 9 1 (.slice a n cap) n xs) : n ≤ cap := by
  obtain ⟨-, ⟨h1, h0⟩ | ⟨g, cp, cur, h1, -, -, hc, -⟩⟩ := h
  · omega
  · cases h1; exact hc
theorem own_str {W : World} {base n cap g : Nat} {ss : List ByteArray} (h : W.ownsRow base 9 1 (.slice (some ⟨g, 0, none⟩) n cap) n (ss.map .string)) (j : Nat) (u : ByteArray) (hu : ss[j]? = some u) : W.cell? ⟨g, 0 + j, none⟩ = some (.string u) := by
  have := World.ownsRow.cells h rfl j (.string u) (by rw [List.getElem?_map, hu]; rfl)
  unfold Addr.add at this
  split at this
  · subst_vars; simpa using this
  · simpa using this
theorem info_str : (Tryz.prog.info? 9).map (fun i => (i.zero, i.size, i.bytes)) = some (some (.string .empty), 1, 16) := by kernel_rfl

theorem print_len2 {t : List Cl} (h : (print t).2 = 0) : (print t).1.length ≤ 65536 := by
  unfold print at h ⊢
  split
  · simp
  · rename_i hx
    rw [if_neg hx] at h
    cases hF : printF t [] [] with
    | none => simp
    | some b => exact (printF_pr _ _ _ _ hF).2
theorem trow_word {k : Int} {r : TRow} (h : trow k = some r) : r.word.size ≤ 5 ∧ r.word.data.size ≤ 5 := by
  unfold trow at h
  repeat' split at h
  all_goals first | (cases h; exact ⟨by decide, by decide⟩) | cases h
set_option maxHeartbeats 4000000 in
theorem tprint_some (e : Ev) (x : Value) (r : TRow) (w : World) (hr : trow e.kind = some r) (he : evRight e = 0) (hx : SeesT w x e.term) (hto : TextsOk e.term) (hf : ∀ c ∈ e.term, fits c) (h1 : fit64 e.tick) (h2 : fit64 e.pid) (h3 : fit64 e.by_) (ht : Tabs w) :
    Calls Tryz.prog 14 #[evV e x] w fun e' w' => e' = .returned (.tuple #[.string (Txt.bytes (evPrint e).1), .int .i64 (evPrint e).2]) ∧ Below w.heap.size w w' := by
  have HR := Lib.hid hr
  have hb0 : Below w.heap.size w (w.alloc (.cells #[.int .i64 e.kind, .int .i64 e.tick, .int .i64 e.pid, .int .i64 e.by_, x] 24)) := (Below.refl _ _).alloc (Nat.le_refl _) _
  have HB0 := Lib.hid hb0; clear hb0
  have HE0 := Lib.hid (evAt_new w e x)
  have HX := Lib.hid hx
  have HT := Lib.hid ht; clear ht
  have hrc := fun W a b => tright_calls e x W a hto b
  rw [he] at hrc
  have HRC := Lib.hid hrc; clear hrc
  have hpc := fun W a b => print_calls x e.term W a hto hf b
  have HPC := Lib.hid hpc; clear hpc hto hf
  obtain ⟨XA, xc, rfl, -, -⟩ := hx
  have hwd := trow_word hr
  have HWD := Lib.hid hwd; clear hwd
  unfold evPrint
  rw [if_neg (by simpa using he), hr]
  dsimp only
  clear he hr
  obtain ⟨k, tick, pid, bb, t⟩ := e
  obtain ⟨wd, rp, rb, nb, tk⟩ := r
  dsimp only at *
  unfold evV at *
  dsimp only at *
  generalize hv : (if t.length > 0 then (if (print t).2 ≠ 0 then (([] : List UInt8), (print t).2) else (evHead ⟨k, tick, pid, bb, t⟩ ⟨wd, rp, rb, nb, tk⟩ ++ 32 :: (print t).1, 0)) else (evHead ⟨k, tick, pid, bb, t⟩ ⟨wd, rp, rb, nb, tk⟩, 0)) = RV
  have HV := Lib.hid hv; clear hv
  go_enter Tryz.func14, Tryz.ntmps14
  go_wp2_with fail
  refine (HRC.out _ (HX.out.below HB0.out) (HT.out.below HB0.out)).mono ?_
  rintro e1 w1 ⟨rfl, hb⟩
  have HE1 := Lib.hid (HE0.out.below hb)
  have HB1 := Lib.hid (HB0.out.trans (hb.mono HB0.out.size)); clear hb
  have c0 := HE1.out.c0
  dsimp only at c0
  go_wp2_with fail
  refine (rowOf_calls _ _).mono ?_
  rintro e2 w2 ⟨hs, -, hb⟩
  obtain rfl := hs _ HR.out
  have HE2 := Lib.hid (HE1.out.below hb)
  have HB2 := Lib.hid (HB1.out.trans (hb.mono HB1.out.size)); clear hb hs c0
  unfold rowV
  dsimp only
  generalize hfn : termFn tk = fv
  obtain ⟨f, rfl⟩ : ∃ f, fv = .func (.func f) #[] #[] := by
    rw [← hfn]
    unfold termFn
    split <;> exact ⟨_, rfl⟩
  clear hfn
  have HPH := Lib.hid (ph_new (r := ⟨wd, rp, rb, nb, tk⟩) (fv := .func (.func f) #[] #[]) HE2.out HB2.out)
  clear HE0 HE1 HE2 HB0 HB1
  go_wp2_with fail
  have hdef : (⟨(Lib.itoa tick).toArray⟩ : ByteArray) = Txt.bytes (Lib.itoa tick) := rfl
  have HDEF := Lib.hid hdef; clear hdef
  generalize hW : w2.alloc (.cells #[.string wd, .bool rp, .bool rb, .bool nb, .func (.func f) #[] #[]] 63) = w3 at *
  clear hW
  have q1 : w3.cell? ⟨w.heap.size, 1, none⟩ = some (.int .i64 tick) := HPH.out.ev.c1
  have q2 : w3.cell? ⟨w2.heap.size, 0, none⟩ = some (.string wd) := HPH.out.r0
  have hh := HPH.out.below (Below.refl _ _).drew
  go_region_held3 (fun w' => w'.cell? ⟨w.heap.size, 1, none⟩ = some (.int .i64 tick) ∧ w'.cell? ⟨w2.heap.size, 0, none⟩ = some (.string wd) ∧ PH w w2.heap.size ⟨k, tick, pid, bb, t⟩ (.slice XA t.length xc) ⟨wd, rp, rb, nb, tk⟩ (.func (.func f) #[] #[]) w')
    (first | exact PH.both (by assumption) | exact PH.both (PH.alloc (by assumption) _))
    (first | (go_at_call 47; have hz := (by assumption : _ ∧ _ ∧ PH w w2.heap.size ⟨k, tick, pid, bb, t⟩ (.slice XA t.length xc) ⟨wd, rp, rb, nb, tk⟩ (.func (.func f) #[] #[]) _).2.2; refine (Tryz.strconv_FormatInt_10 tick h1.1 h1.2 _ (HT.out.below hz.be).pow).mono ?_; rintro e w' ⟨rfl, kk, os, hw⟩; have hz' := hz.grew hw; clear hz hw))
  have hz := (by assumption : PH w w2.heap.size ⟨k, tick, pid, bb, t⟩ (.slice XA t.length xc) ⟨wd, rp, rb, nb, tk⟩ (.func (.func f) #[] #[]) w')
  have HPL := Lib.hid (pl_new (a := Txt.bytes (Lib.itoa tick)) (b := wd) hz)
  rw [← HDEF.out] at HPL
  obtain ⟨i0, hi, hz0, hz1, hz2⟩ := info_parts info_str
  have q3 := HPL.out.ph.r2
  dsimp only at q3
  have hl1 := Lib.itoa_length_le tick h1.1 h1.2
  have hl2 := whoB_len bb h3
  have hl3 := whoB_len pid h2
  have HLS := Lib.hid (And.intro hl1 (And.intro hl2 hl3)); clear hl1 hl2 hl3 q1 q2 hh hz HPH
  cases rb with
  | false =>
    cases rp with
    | false =>
      have q4 := HPL.out.ph.r1
      dsimp only at q4
      have c4 := HPL.out.ph.ev.c4
      skip
      by_cases ht0 : t.length > 0
      · have e8 : decide (0 < t.length) = true := by simpa using ht0
        have e9 : decide ((0 : Int) < (t.length : Int)) = true := by simp; omega
        have HPCx := Lib.hid (HPC.out _ (HX.out.below HPL.out.ph.be) (HT.out.below HPL.out.ph.be))
        have hpl : (print t).2 = 0 → (print t).1.length ≤ 65536 := print_len2
        generalize print t = PR at *
        obtain ⟨pr, pe⟩ := PR
        go_wp2_with fail
        refine (HPCx.out).mono ?_
        rintro e5 w5 ⟨rfl, hb⟩
        have HP1 := Lib.hid (HPL.out.below hb); clear hb c4
        by_cases hpe : pe = 0
        · subst hpe
          have hpr := hpl rfl
          have HPR := Lib.hid hpr; clear hpr hpl
          go_wp2_with (at_builtin; refine wpList_append_own _ rfl _ _ 77 rfl w'.heap.size 9 i0 (.string .empty) 1 16 Tryz.underlying77 hi hz0 hz1 hz2 rfl (by decide) _ _ _ rfl (World.ownsRow.alloc HP1.out.own _) ⟨_, 0, none⟩ 1 1 [.string (Txt.bytes pr)] rfl rfl ?a2 ?b2 ?c2 ?d2 ?e2 ?_)
          case a2 => exact new_list _ [.string (Txt.bytes pr)] _ _ rfl
          case b2 => intro y hy; simp at hy; subst hy; rfl
          case c2 => simp [maxLen]
          case d2 => simp
          case e2 => have := HP1.out.le; simp; omega
          intro v2 x2 hown hgrow _
          have HP2 := Lib.hid (HP1.out.more hown hgrow)
          obtain ⟨g2, cap2, rfl, hcap2⟩ := own_form HP2.out.own (by simp)
          clear hown hgrow
          go_wp2_with fail
          have hcapj := own_cap HP2.out.own
          refine (Tryz.strings_Join _ 0 _ [Txt.bytes (Lib.itoa tick), wd, Txt.bytes pr] ⟨#[32]⟩ _ (fun j u hu => ?j1) ?j2 (by simp) hcapj ?j3).mono ?_
          case j1 => exact own_str HP2.out.own j u hu
          case j2 => exact (World.ownsRow.lt HP2.out.own _ rfl).2
          case j3 => (have := HLS.out; have := HPR.out; have := HWD.out.1; have := HWD.out.2; simp [Lib.join, List.intercalate, Txt.bytes]; omega)
          rintro ej wj ⟨rfl, hbj⟩
          go_wp2
          go_ret2
          refine ⟨?_, HP2.out.ph.be.trans (hbj.mono HP2.out.ph.be.size)⟩
          obtain rfl : (evHead ⟨k, tick, pid, bb, t⟩ ⟨wd, false, false, nb, tk⟩ ++ 32 :: pr, 0) = RV := by rw [← HV.out, if_pos ht0, if_neg (by simp)]
          refine congrArg (fun z => Ending.returned (.tuple #[.string z, .int .i64 0])) ?_
          apply ByteArray.ext
          simp [Lib.join, List.intercalate, evHead, Txt.bytes]
        · obtain rfl : ([], pe) = RV := by rw [← HV.out, if_pos ht0, if_pos hpe]
          have hpn : (pe != 0) = true := by simpa using hpe
          go_wp2
          go_ret2
          exact ⟨rfl, HP1.out.ph.be⟩
      · have e8 : decide (0 < t.length) = false := decide_eq_false (by omega)
        have e9 : decide ((0 : Int) < (t.length : Int)) = false := decide_eq_false (by omega)
        go_wp2_with fail
        have hcapj := own_cap HPL.out.own
        refine (Tryz.strings_Join _ 0 _ [Txt.bytes (Lib.itoa tick), wd] ⟨#[32]⟩ _ (fun j u hu => ?j1) ?j2 (by simp) hcapj ?j3).mono ?_
        case j1 => exact own_str HPL.out.own j u hu
        case j2 => exact (World.ownsRow.lt HPL.out.own _ rfl).2
        case j3 => (have := HLS.out; have := HWD.out.1; have := HWD.out.2; simp [Lib.join, List.intercalate, Txt.bytes]; omega)
        rintro ej wj ⟨rfl, hbj⟩
        go_wp2
        go_ret2
        refine ⟨?_, HPL.out.ph.be.trans (hbj.mono HPL.out.ph.be.size)⟩
        obtain rfl : (evHead ⟨k, tick, pid, bb, t⟩ ⟨wd, false, false, nb, tk⟩, 0) = RV := by rw [← HV.out, if_neg ht0]
        refine congrArg (fun z => Ending.returned (.tuple #[.string z, .int .i64 0])) ?_
        apply ByteArray.ext
        simp [Lib.join, List.intercalate, evHead, Txt.bytes]
    | true =>
      have q4 := HPL.out.ph.r1
      dsimp only at q4
      have c3 := HPL.out.ph.ev.c2
      dsimp only at c3
      go_wp2_with fail
      refine (who_calls pid _ h2 (HT.out.below HPL.out.ph.be)).mono ?_
      rintro e3 y3 ⟨rfl, hb⟩
      have HP3 := Lib.hid (HPL.out.below hb); clear hb c3
      go_wp2_with (at_builtin; refine wpList_append_own _ rfl _ _ 77 rfl w'.heap.size 9 i0 (.string .empty) 1 16 Tryz.underlying77 hi hz0 hz1 hz2 rfl (by decide) _ _ _ rfl (World.ownsRow.alloc HP3.out.own _) ⟨_, 0, none⟩ 1 1 [.string (Txt.bytes (whoB pid))] rfl rfl ?a4 ?b4 ?c4 ?d4 ?e4 ?_)
      case a4 => exact new_list _ [.string (Txt.bytes (whoB pid))] _ _ rfl
      case b4 => intro y hy; simp at hy; subst hy; rfl
      case c4 => simp [maxLen]
      case d4 => simp
      case e4 => have := HP3.out.le; simp; omega
      intro v4 x4 hown hgrow _
      have HP4 := Lib.hid (HP3.out.more hown hgrow)
      obtain ⟨g4, cap4, rfl, hcap4⟩ := own_form HP4.out.own (by simp)
      clear hown hgrow
      have c4 := HP4.out.ph.ev.c4
      skip
      by_cases ht0 : t.length > 0
      · have e8 : decide (0 < t.length) = true := by simpa using ht0
        have e9 : decide ((0 : Int) < (t.length : Int)) = true := by simp; omega
        have HPCx := Lib.hid (HPC.out _ (HX.out.below HP4.out.ph.be) (HT.out.below HP4.out.ph.be))
        have hpl : (print t).2 = 0 → (print t).1.length ≤ 65536 := print_len2
        generalize print t = PR at *
        obtain ⟨pr, pe⟩ := PR
        go_wp2_with fail
        refine (HPCx.out).mono ?_
        rintro e5 w5 ⟨rfl, hb⟩
        have HP5 := Lib.hid (HP4.out.below hb); clear hb c4
        by_cases hpe : pe = 0
        · subst hpe
          have hpr := hpl rfl
          have HPR := Lib.hid hpr; clear hpr hpl
          go_wp2_with (at_builtin; refine wpList_append_own _ rfl _ _ 77 rfl w'.heap.size 9 i0 (.string .empty) 1 16 Tryz.underlying77 hi hz0 hz1 hz2 rfl (by decide) _ _ _ rfl (World.ownsRow.alloc HP5.out.own _) ⟨_, 0, none⟩ 1 1 [.string (Txt.bytes pr)] rfl rfl ?a6 ?b6 ?c6 ?d6 ?e6 ?_)
          case a6 => exact new_list _ [.string (Txt.bytes pr)] _ _ rfl
          case b6 => intro y hy; simp at hy; subst hy; rfl
          case c6 => simp [maxLen]
          case d6 => simp
          case e6 => have := HP5.out.le; simp; omega
          intro v6 x6 hown hgrow _
          have HP6 := Lib.hid (HP5.out.more hown hgrow)
          obtain ⟨g6, cap6, rfl, hcap6⟩ := own_form HP6.out.own (by simp)
          clear hown hgrow
          go_wp2_with fail
          have hcapj := own_cap HP6.out.own
          refine (Tryz.strings_Join _ 0 _ [Txt.bytes (Lib.itoa tick), wd, Txt.bytes (whoB pid), Txt.bytes pr] ⟨#[32]⟩ _ (fun j u hu => ?j1) ?j2 (by simp) hcapj ?j3).mono ?_
          case j1 => exact own_str HP6.out.own j u hu
          case j2 => exact (World.ownsRow.lt HP6.out.own _ rfl).2
          case j3 => (have := HLS.out; have := HPR.out; have := HWD.out.1; have := HWD.out.2; simp [Lib.join, List.intercalate, Txt.bytes]; omega)
          rintro ej wj ⟨rfl, hbj⟩
          go_wp2
          go_ret2
          refine ⟨?_, HP6.out.ph.be.trans (hbj.mono HP6.out.ph.be.size)⟩
          obtain rfl : (evHead ⟨k, tick, pid, bb, t⟩ ⟨wd, true, false, nb, tk⟩ ++ 32 :: pr, 0) = RV := by rw [← HV.out, if_pos ht0, if_neg (by simp)]
          refine congrArg (fun z => Ending.returned (.tuple #[.string z, .int .i64 0])) ?_
          apply ByteArray.ext
          simp [Lib.join, List.intercalate, evHead, Txt.bytes]
        · obtain rfl : ([], pe) = RV := by rw [← HV.out, if_pos ht0, if_pos hpe]
          have hpn : (pe != 0) = true := by simpa using hpe
          go_wp2
          go_ret2
          exact ⟨rfl, HP5.out.ph.be⟩
      · have e8 : decide (0 < t.length) = false := decide_eq_false (by omega)
        have e9 : decide ((0 : Int) < (t.length : Int)) = false := decide_eq_false (by omega)
        go_wp2_with fail
        have hcapj := own_cap HP4.out.own
        refine (Tryz.strings_Join _ 0 _ [Txt.bytes (Lib.itoa tick), wd, Txt.bytes (whoB pid)] ⟨#[32]⟩ _ (fun j u hu => ?j1) ?j2 (by simp) hcapj ?j3).mono ?_
        case j1 => exact own_str HP4.out.own j u hu
        case j2 => exact (World.ownsRow.lt HP4.out.own _ rfl).2
        case j3 => (have := HLS.out; have := HWD.out.1; have := HWD.out.2; simp [Lib.join, List.intercalate, Txt.bytes]; omega)
        rintro ej wj ⟨rfl, hbj⟩
        go_wp2
        go_ret2
        refine ⟨?_, HP4.out.ph.be.trans (hbj.mono HP4.out.ph.be.size)⟩
        obtain rfl : (evHead ⟨k, tick, pid, bb, t⟩ ⟨wd, true, false, nb, tk⟩, 0) = RV := by rw [← HV.out, if_neg ht0]
        refine congrArg (fun z => Ending.returned (.tuple #[.string z, .int .i64 0])) ?_
        apply ByteArray.ext
        simp [Lib.join, List.intercalate, evHead, Txt.bytes]
  | true =>
    have c7 := HPL.out.ph.ev.c3
    dsimp only at c7
    go_wp2_with fail
    refine (who_calls bb _ h3 (HT.out.below HPL.out.ph.be)).mono ?_
    rintro e7 y7 ⟨rfl, hb⟩
    have HP7 := Lib.hid (HPL.out.below hb); clear hb c7
    go_wp2_with (at_builtin; refine wpList_append_own _ rfl _ _ 77 rfl w'.heap.size 9 i0 (.string .empty) 1 16 Tryz.underlying77 hi hz0 hz1 hz2 rfl (by decide) _ _ _ rfl (World.ownsRow.alloc HP7.out.own _) ⟨_, 0, none⟩ 1 1 [.string (Txt.bytes (whoB bb))] rfl rfl ?a8 ?b8 ?c8 ?d8 ?e8 ?_)
    case a8 => exact new_list _ [.string (Txt.bytes (whoB bb))] _ _ rfl
    case b8 => intro y hy; simp at hy; subst hy; rfl
    case c8 => simp [maxLen]
    case d8 => simp
    case e8 => have := HP7.out.le; simp; omega
    intro v8 x8 hown hgrow _
    have HP8 := Lib.hid (HP7.out.more hown hgrow)
    obtain ⟨g8, cap8, rfl, hcap8⟩ := own_form HP8.out.own (by simp)
    clear hown hgrow
    cases rp with
    | false =>
      have q4 := HP8.out.ph.r1
      dsimp only at q4
      have c4 := HP8.out.ph.ev.c4
      skip
      by_cases ht0 : t.length > 0
      · have e8 : decide (0 < t.length) = true := by simpa using ht0
        have e9 : decide ((0 : Int) < (t.length : Int)) = true := by simp; omega
        have HPCx := Lib.hid (HPC.out _ (HX.out.below HP8.out.ph.be) (HT.out.below HP8.out.ph.be))
        have hpl : (print t).2 = 0 → (print t).1.length ≤ 65536 := print_len2
        generalize print t = PR at *
        obtain ⟨pr, pe⟩ := PR
        go_wp2_with fail
        refine (HPCx.out).mono ?_
        rintro e5 w5 ⟨rfl, hb⟩
        have HP9 := Lib.hid (HP8.out.below hb); clear hb c4
        by_cases hpe : pe = 0
        · subst hpe
          have hpr := hpl rfl
          have HPR := Lib.hid hpr; clear hpr hpl
          go_wp2_with (at_builtin; refine wpList_append_own _ rfl _ _ 77 rfl w'.heap.size 9 i0 (.string .empty) 1 16 Tryz.underlying77 hi hz0 hz1 hz2 rfl (by decide) _ _ _ rfl (World.ownsRow.alloc HP9.out.own _) ⟨_, 0, none⟩ 1 1 [.string (Txt.bytes pr)] rfl rfl ?a10 ?b10 ?c10 ?d10 ?e10 ?_)
          case a10 => exact new_list _ [.string (Txt.bytes pr)] _ _ rfl
          case b10 => intro y hy; simp at hy; subst hy; rfl
          case c10 => simp [maxLen]
          case d10 => simp
          case e10 => have := HP9.out.le; simp; omega
          intro v10 x10 hown hgrow _
          have HP10 := Lib.hid (HP9.out.more hown hgrow)
          obtain ⟨g10, cap10, rfl, hcap10⟩ := own_form HP10.out.own (by simp)
          clear hown hgrow
          go_wp2_with fail
          have hcapj := own_cap HP10.out.own
          refine (Tryz.strings_Join _ 0 _ [Txt.bytes (Lib.itoa tick), wd, Txt.bytes (whoB bb), Txt.bytes pr] ⟨#[32]⟩ _ (fun j u hu => ?j1) ?j2 (by simp) hcapj ?j3).mono ?_
          case j1 => exact own_str HP10.out.own j u hu
          case j2 => exact (World.ownsRow.lt HP10.out.own _ rfl).2
          case j3 => (have := HLS.out; have := HPR.out; have := HWD.out.1; have := HWD.out.2; simp [Lib.join, List.intercalate, Txt.bytes]; omega)
          rintro ej wj ⟨rfl, hbj⟩
          go_wp2
          go_ret2
          refine ⟨?_, HP10.out.ph.be.trans (hbj.mono HP10.out.ph.be.size)⟩
          obtain rfl : (evHead ⟨k, tick, pid, bb, t⟩ ⟨wd, false, true, nb, tk⟩ ++ 32 :: pr, 0) = RV := by rw [← HV.out, if_pos ht0, if_neg (by simp)]
          refine congrArg (fun z => Ending.returned (.tuple #[.string z, .int .i64 0])) ?_
          apply ByteArray.ext
          simp [Lib.join, List.intercalate, evHead, Txt.bytes]
        · obtain rfl : ([], pe) = RV := by rw [← HV.out, if_pos ht0, if_pos hpe]
          have hpn : (pe != 0) = true := by simpa using hpe
          go_wp2
          go_ret2
          exact ⟨rfl, HP9.out.ph.be⟩
      · have e8 : decide (0 < t.length) = false := decide_eq_false (by omega)
        have e9 : decide ((0 : Int) < (t.length : Int)) = false := decide_eq_false (by omega)
        go_wp2_with fail
        have hcapj := own_cap HP8.out.own
        refine (Tryz.strings_Join _ 0 _ [Txt.bytes (Lib.itoa tick), wd, Txt.bytes (whoB bb)] ⟨#[32]⟩ _ (fun j u hu => ?j1) ?j2 (by simp) hcapj ?j3).mono ?_
        case j1 => exact own_str HP8.out.own j u hu
        case j2 => exact (World.ownsRow.lt HP8.out.own _ rfl).2
        case j3 => (have := HLS.out; have := HWD.out.1; have := HWD.out.2; simp [Lib.join, List.intercalate, Txt.bytes]; omega)
        rintro ej wj ⟨rfl, hbj⟩
        go_wp2
        go_ret2
        refine ⟨?_, HP8.out.ph.be.trans (hbj.mono HP8.out.ph.be.size)⟩
        obtain rfl : (evHead ⟨k, tick, pid, bb, t⟩ ⟨wd, false, true, nb, tk⟩, 0) = RV := by rw [← HV.out, if_neg ht0]
        refine congrArg (fun z => Ending.returned (.tuple #[.string z, .int .i64 0])) ?_
        apply ByteArray.ext
        simp [Lib.join, List.intercalate, evHead, Txt.bytes]
    | true =>
      have q4 := HP8.out.ph.r1
      dsimp only at q4
      have c11 := HP8.out.ph.ev.c2
      dsimp only at c11
      go_wp2_with fail
      refine (who_calls pid _ h2 (HT.out.below HP8.out.ph.be)).mono ?_
      rintro e11 y11 ⟨rfl, hb⟩
      have HP11 := Lib.hid (HP8.out.below hb); clear hb c11
      go_wp2_with (at_builtin; refine wpList_append_own _ rfl _ _ 77 rfl w'.heap.size 9 i0 (.string .empty) 1 16 Tryz.underlying77 hi hz0 hz1 hz2 rfl (by decide) _ _ _ rfl (World.ownsRow.alloc HP11.out.own _) ⟨_, 0, none⟩ 1 1 [.string (Txt.bytes (whoB pid))] rfl rfl ?a12 ?b12 ?c12 ?d12 ?e12 ?_)
      case a12 => exact new_list _ [.string (Txt.bytes (whoB pid))] _ _ rfl
      case b12 => intro y hy; simp at hy; subst hy; rfl
      case c12 => simp [maxLen]
      case d12 => simp
      case e12 => have := HP11.out.le; simp; omega
      intro v12 x12 hown hgrow _
      have HP12 := Lib.hid (HP11.out.more hown hgrow)
      obtain ⟨g12, cap12, rfl, hcap12⟩ := own_form HP12.out.own (by simp)
      clear hown hgrow
      have c4 := HP12.out.ph.ev.c4
      skip
      by_cases ht0 : t.length > 0
      · have e8 : decide (0 < t.length) = true := by simpa using ht0
        have e9 : decide ((0 : Int) < (t.length : Int)) = true := by simp; omega
        have HPCx := Lib.hid (HPC.out _ (HX.out.below HP12.out.ph.be) (HT.out.below HP12.out.ph.be))
        have hpl : (print t).2 = 0 → (print t).1.length ≤ 65536 := print_len2
        generalize print t = PR at *
        obtain ⟨pr, pe⟩ := PR
        go_wp2_with fail
        refine (HPCx.out).mono ?_
        rintro e5 w5 ⟨rfl, hb⟩
        have HP13 := Lib.hid (HP12.out.below hb); clear hb c4
        by_cases hpe : pe = 0
        · subst hpe
          have hpr := hpl rfl
          have HPR := Lib.hid hpr; clear hpr hpl
          go_wp2_with (at_builtin; refine wpList_append_own _ rfl _ _ 77 rfl w'.heap.size 9 i0 (.string .empty) 1 16 Tryz.underlying77 hi hz0 hz1 hz2 rfl (by decide) _ _ _ rfl (World.ownsRow.alloc HP13.out.own _) ⟨_, 0, none⟩ 1 1 [.string (Txt.bytes pr)] rfl rfl ?a14 ?b14 ?c14 ?d14 ?e14 ?_)
          case a14 => exact new_list _ [.string (Txt.bytes pr)] _ _ rfl
          case b14 => intro y hy; simp at hy; subst hy; rfl
          case c14 => simp [maxLen]
          case d14 => simp
          case e14 => have := HP13.out.le; simp; omega
          intro v14 x14 hown hgrow _
          have HP14 := Lib.hid (HP13.out.more hown hgrow)
          obtain ⟨g14, cap14, rfl, hcap14⟩ := own_form HP14.out.own (by simp)
          clear hown hgrow
          go_wp2_with fail
          have hcapj := own_cap HP14.out.own
          refine (Tryz.strings_Join _ 0 _ [Txt.bytes (Lib.itoa tick), wd, Txt.bytes (whoB bb), Txt.bytes (whoB pid), Txt.bytes pr] ⟨#[32]⟩ _ (fun j u hu => ?j1) ?j2 (by simp) hcapj ?j3).mono ?_
          case j1 => exact own_str HP14.out.own j u hu
          case j2 => exact (World.ownsRow.lt HP14.out.own _ rfl).2
          case j3 => (have := HLS.out; have := HPR.out; have := HWD.out.1; have := HWD.out.2; simp [Lib.join, List.intercalate, Txt.bytes]; omega)
          rintro ej wj ⟨rfl, hbj⟩
          go_wp2
          go_ret2
          refine ⟨?_, HP14.out.ph.be.trans (hbj.mono HP14.out.ph.be.size)⟩
          obtain rfl : (evHead ⟨k, tick, pid, bb, t⟩ ⟨wd, true, true, nb, tk⟩ ++ 32 :: pr, 0) = RV := by rw [← HV.out, if_pos ht0, if_neg (by simp)]
          refine congrArg (fun z => Ending.returned (.tuple #[.string z, .int .i64 0])) ?_
          apply ByteArray.ext
          simp [Lib.join, List.intercalate, evHead, Txt.bytes]
        · obtain rfl : ([], pe) = RV := by rw [← HV.out, if_pos ht0, if_pos hpe]
          have hpn : (pe != 0) = true := by simpa using hpe
          go_wp2
          go_ret2
          exact ⟨rfl, HP13.out.ph.be⟩
      · have e8 : decide (0 < t.length) = false := decide_eq_false (by omega)
        have e9 : decide ((0 : Int) < (t.length : Int)) = false := decide_eq_false (by omega)
        go_wp2_with fail
        have hcapj := own_cap HP12.out.own
        refine (Tryz.strings_Join _ 0 _ [Txt.bytes (Lib.itoa tick), wd, Txt.bytes (whoB bb), Txt.bytes (whoB pid)] ⟨#[32]⟩ _ (fun j u hu => ?j1) ?j2 (by simp) hcapj ?j3).mono ?_
        case j1 => exact own_str HP12.out.own j u hu
        case j2 => exact (World.ownsRow.lt HP12.out.own _ rfl).2
        case j3 => (have := HLS.out; have := HWD.out.1; have := HWD.out.2; simp [Lib.join, List.intercalate, Txt.bytes]; omega)
        rintro ej wj ⟨rfl, hbj⟩
        go_wp2
        go_ret2
        refine ⟨?_, HP12.out.ph.be.trans (hbj.mono HP12.out.ph.be.size)⟩
        obtain rfl : (evHead ⟨k, tick, pid, bb, t⟩ ⟨wd, true, true, nb, tk⟩, 0) = RV := by rw [← HV.out, if_neg ht0]
        refine congrArg (fun z => Ending.returned (.tuple #[.string z, .int .i64 0])) ?_
        apply ByteArray.ext
        simp [Lib.join, List.intercalate, evHead, Txt.bytes]
end Go.Proofs.YtejpdfenejbjdaaGreatDoor

namespace Go.Proofs.YtejpdfenejbjdaaGreatDoor
open Go.RowKit Txt
set_option linter.unusedVariables false
set_option linter.unusedSimpArgs false

set_option maxHeartbeats 1000000 in
theorem tprint_bad (e : Ev) (x : Value) (v : Int) (w : World) (he : evRight e = v) (hv : v ≠ 0) (hx : SeesT w x e.term) (hto : TextsOk e.term) (ht : Tabs w) :
    Calls Tryz.prog 14 #[evV e x] w fun e' w' => e' = .returned (.tuple #[.string ⟨#[]⟩, .int .i64 v]) ∧ Below w.heap.size w w' := by
  have hb0 : Below w.heap.size w (w.alloc (.cells #[.int .i64 e.kind, .int .i64 e.tick, .int .i64 e.pid, .int .i64 e.by_, x] 24)) := (Below.refl _ _).alloc (Nat.le_refl _) _
  have hrc := tright_calls e x _ (hx.below hb0) hto (ht.below hb0)
  have HB0 := Lib.hid hb0; clear hb0
  rw [he] at hrc
  have HRC := Lib.hid hrc; clear hrc hto he
  have hn : (v != 0) = true := by simpa using hv
  obtain ⟨XA, xc, rfl, -, -⟩ := hx
  obtain ⟨k, tick, pid, bb, t⟩ := e
  unfold evV at *
  dsimp only at *
  go_enter Tryz.func14, Tryz.ntmps14
  go_wp2_with fail
  refine (HRC.out).mono ?_
  rintro e1 w1 ⟨rfl, hb⟩
  go_wp2
  go_ret2
  exact ⟨rfl, HB0.out.trans (hb.mono HB0.out.size)⟩
theorem tprint_calls (e : Ev) (x : Value) (w : World) (hx : SeesT w x e.term) (hto : TextsOk e.term) (hf : ∀ c ∈ e.term, fits c) (h1 : fit64 e.tick) (h2 : fit64 e.pid) (h3 : fit64 e.by_) (ht : Tabs w) :
    Calls Tryz.prog 14 #[evV e x] w fun e' w' => e' = .returned (.tuple #[.string (Txt.bytes (evPrint e).1), .int .i64 (evPrint e).2]) ∧ Below w.heap.size w w' := by
  by_cases he : evRight e = 0
  · cases hr : trow e.kind with
    | none =>
      have : evRight e = 1 := by unfold evRight; rw [hr]
      omega
    | some r => exact tprint_some e x r w hr he hx hto hf h1 h2 h3 ht
  · have e1 : evPrint e = ([], evRight e) := by unfold evPrint; rw [if_pos he]
    rw [e1]
    exact tprint_bad e x _ w rfl he hx hto ht
end Go.Proofs.YtejpdfenejbjdaaGreatDoor
