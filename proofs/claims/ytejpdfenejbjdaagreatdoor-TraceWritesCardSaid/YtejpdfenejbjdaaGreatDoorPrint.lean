/- Walks: Print. -/
import Derived.Test.YtejpdfenejbjdaaGreatDoorClosed
import Derived.Test.YtejpdfenejbjdaaGreatDoorLeaf
import Derived.Lib.AppendStr
namespace Go.Proofs.YtejpdfenejbjdaaGreatDoor
open Go.RowKit Txt
set_option linter.unusedVariables false
set_option linter.unusedSimpArgs false

theorem closed_len (st : List Opn) : (closed st).1.length ≤ st.length ∧ (closed st).2.length ≤ st.length := by
  induction st with
  | nil => exact ⟨Nat.le_refl _, Nat.le_refl _⟩
  | cons o st ih =>
    rw [closed]
    split
    · simp
    · split
      · simp only [List.length_cons]; omega
      · split
        · simp
        · simp only [List.length_cons]; omega
theorem pieces_len (s : ByteArray) : ∀ k p, (piecesF s k p).length ≤ 6 * k := by
  intro k
  induction k with
  | zero => intro p; exact Nat.le_refl _
  | succ k ih =>
    intro p
    rw [piecesF]
    split
    · have h1 := ih (p + (Utf8.decode s p).2)
      have h2 := piece_len (Utf8.decode s p).1
      rw [List.length_append]; omega
    · simp
theorem leaf_len {c : Cl} (hc : cellE c = 0) (hf : fits c) (h7 : c.kind ≠ 7) : (leaf c).length ≤ 4200 := by
  have hcell := cell_ok hc
  have hit := Lib.itoa_length_le c.n hf.1 hf.2
  unfold leaf
  by_cases h1 : c.kind = 1
  · rw [if_pos h1]; omega
  rw [if_neg h1]
  by_cases h2 : c.kind = 2
  · rw [if_pos h2]
    have hx := (hcell.2.2.2.2.2.2.2.1 h2).1
    have hl : c.text.data.toList.length = c.text.size := by simp
    have := pieces_len c.text c.text.size 0
    unfold quote
    split
    · split
      · simp only; omega
      · simp only [List.length_cons, List.length_append, List.length_nil]; omega
    · simp
  rw [if_neg h2]
  by_cases h3 : c.kind = 3
  · rw [if_pos h3]; simp only [List.length_cons, List.length_append, List.length_nil]; omega
  rw [if_neg h3]
  by_cases h4 : c.kind = 4
  · rw [if_pos h4]; simp only [List.length_cons, List.length_append, List.length_nil]; omega
  rw [if_neg h4]
  by_cases h6 : c.kind = 6
  · rw [if_pos h6]; simp
  rw [if_neg h6]
  by_cases h5 : c.kind = 5
  · rw [if_pos h5]; simp
  rw [if_neg h5]
  have h8 : c.kind = 8 := by have := hcell.1; have := hcell.2.1; omega
  have hx := hcell.2.2.2.2.2.2.2.2 h8
  have hl : c.text.data.toList.length = c.text.size := by simp
  have h1 := slashed_len c.text.data.toList
  have h2 := commas_len c.text.data.toList
  unfold shown
  split <;> simp only [List.length_cons, List.length_append, List.length_nil] <;> omega
theorem right_cells {t : List Cl} (h : (right t).1 = 0) : t.length ≤ 1024 ∧ ∀ c ∈ t, cellE c = 0 := by
  unfold right at h
  split at h
  · cases h
  · split at h
    · cases h
    · refine ⟨by omega, ?_⟩
      have : ∀ (l : List Cl) (i want : Nat), (rightF l i want).1 = 0 → ∀ c ∈ l, cellE c = 0 := by
        intro l
        induction l with
        | nil => intro i want _ c hc; cases hc
        | cons d l ih =>
          intro i want h c hc
          rw [rightF] at h
          split at h
          · rename_i hx; exact absurd h hx
          · rename_i hx
            split at h
            · cases h
            · rw [List.mem_cons] at hc
              rcases hc with rfl | hc
              · exact Decidable.byContradiction hx
              · exact ih _ _ h c hc
      exact this _ _ _ h

/-- Rows of two types lie apart. -/
theorem apart_of {base : Nat} {w : World} {bv sv : Value} {bs : List UInt8} {st : List Opn} (h : OwnB base w bv bs) (h' : OwnS base w sv st) : bv.ownBlock = none ∨ bv.ownBlock ≠ sv.ownBlock := by
  obtain ⟨-, ⟨rfl, -⟩ | ⟨g, cap, cur, rfl, -, hg, -⟩⟩ := h
  · exact .inl rfl
  · obtain ⟨-, ⟨rfl, -⟩ | ⟨g', cap', cur', rfl, -, hg', -⟩⟩ := h'
    · right; simp [Value.ownBlock]
    · right
      simp only [Value.ownBlock]
      intro e
      cases e
      rw [hg] at hg'
      simp at hg'
theorem OwnS.grown {base : Nat} {w w' : World} {bv sv : Value} {bs : List UInt8} {st : List Opn} (h : PS base w bv sv bs st) (hg : w.grownBy w' bv.ownBlock) : OwnS base w' sv st := by
  refine World.ownsRow.kept h.s hg ?_
  cases hs : sv.ownBlock with
  | none => exact .inl rfl
  | some g =>
    right
    rcases h.apart with h1 | h1
    · rw [h1]; simp
    · rw [hs] at h1; exact fun e => h1 e.symm
theorem PS.puts {base : Nat} {w w' : World} {bv bv' sv : Value} {bs bs' : List UInt8} {st : List Opn} (h : PS base w bv sv bs st) (hb : OwnB base w' bv' bs') (hg : w.grownBy w' bv.ownBlock) : PS base w' bv' sv bs' st :=
  ⟨hb, OwnS.grown h hg, apart_of hb (OwnS.grown h hg), h.small⟩
theorem OwnS.pushed {base : Nat} {w : World} {v : Value} {st : List Opn} {o : Opn} (h : w.ownsRow base 107 3 v (st.length + 1) (ovs st.reverse ++ ov o)) : OwnS base w v (o :: st) := by
  unfold OwnS
  rw [List.reverse_cons, ovs_append, ovs_one]; exact h

theorem printC_tail {c : Cl} {l : Int} {li : Bool} {r : List Opn} : printC c (⟨l, li, true⟩ :: r) = if c.kind = 7 then ([44], ⟨l, li, false⟩ :: r) else if c.kind = 6 then (93 :: (closed r).1, (closed r).2)
    else if c.kind = 5 ∧ c.n > 0 then ([124, 123], ⟨c.n, false, false⟩ :: ⟨l, li, true⟩ :: r) else (124 :: (leaf c ++ (closed (⟨l, li, true⟩ :: r)).1), (closed (⟨l, li, true⟩ :: r)).2) := by
  by_cases h7 : c.kind = 7
  · simp only [printC, h7, if_true]
  · by_cases h6 : c.kind = 6
    · simp only [printC, h6, if_true]
      try rfl
    · simp only [printC, if_neg h7, if_neg h6, if_true]
      split <;> rfl
/-- The cell that a round looks at. -/
def Box (B : Nat) (c : Cl) (w : World) : Prop := w.heap[B]? = some (.cells #[.int .i64 c.kind, .int .i64 c.n, .string c.text] 74 (0, 0))
theorem Box.cells {B : Nat} {c : Cl} {w : World} (h : Box B c w) : w.cell? ⟨B, 0, none⟩ = some (.int .i64 c.kind) ∧ w.cell? ⟨B, 1, none⟩ = some (.int .i64 c.n) ∧ w.cell? ⟨B, 2, none⟩ = some (.string c.text) := by
  unfold Box at h
  refine ⟨?_, ?_, ?_⟩ <;> (simp only [World.cell?, h]; rfl)
theorem own_slice {w : World} {base e size n : Nat} {v : Value} {xs : List Value} (h : w.ownsRow base e size v n xs) : ∃ A m c, v = .slice A m c := by
  obtain ⟨-, ⟨rfl, -⟩ | ⟨g, cap, cur, rfl, -⟩⟩ := h <;> exact ⟨_, _, _, rfl⟩
/-- What holds in the midst of a round. -/
structure RS (w : World) (c : Cl) (B M k : Nat) (b s : Value) (bs : List UInt8) (st : List Opn) (wr : World) : Prop where
  ps : PS w.heap.size wr b s bs st
  be : Below w.heap.size w wr
  len : bs.length ≤ M
  dep : st.length ≤ k
  box : Box B c wr
theorem box_b {base B : Nat} {c : Cl} {w : World} {v : Value} {bs : List UInt8} (h : OwnB base w v bs) (hb : Box B c w) : v.ownBlock ≠ some B := by
  obtain ⟨-, ⟨rfl, -⟩ | ⟨g, cap, cur, rfl, -, hg, -⟩⟩ := h
  · simp [Value.ownBlock]
  · simp only [Value.ownBlock]
    intro e
    cases e
    unfold Box at hb
    rw [hg] at hb
    simp at hb
theorem box_s {base B : Nat} {c : Cl} {w : World} {v : Value} {st : List Opn} (h : OwnS base w v st) (hb : Box B c w) : v.ownBlock ≠ some B := by
  obtain ⟨-, ⟨rfl, -⟩ | ⟨g, cap, cur, rfl, -, hg, -⟩⟩ := h
  · simp [Value.ownBlock]
  · simp only [Value.ownBlock]
    intro e
    cases e
    unfold Box at hb
    rw [hg] at hb
    simp at hb
theorem Box.lt {B : Nat} {c : Cl} {w : World} (h : Box B c w) : B < w.heap.size := by
  unfold Box at h
  rcases Nat.lt_or_ge B w.heap.size with h' | h'
  · exact h'
  · rw [Array.getElem?_eq_none h'] at h; cases h
theorem RS.later {w : World} {c : Cl} {B M k : Nat} {b s : Value} {bs : List UInt8} {st : List Opn} {wr w' : World} (h : RS w c B M k b s bs st wr) (hb : Below wr.heap.size wr w') : RS w c B M k b s bs st w' :=
  ⟨h.ps.keep hb, h.be.trans (hb.mono h.be.size), h.len, h.dep, by unfold Box; rw [hb.block B h.box.lt]; exact h.box⟩
theorem RS.alloc {w : World} {c : Cl} {B M k : Nat} {b s : Value} {bs : List UInt8} {st : List Opn} {wr : World} (h : RS w c B M k b s bs st wr) (o : Obj) : RS w c B M k b s bs st (wr.alloc o) := h.later ((Below.refl _ _).alloc (Nat.le_refl _) _)
theorem RS.putText {w : World} {c : Cl} {B M k : Nat} {b b' s : Value} {bs : List UInt8} {st : List Opn} {wr w' : World} (h : RS w c B M k b s bs st wr) (l : List UInt8) (hl : l.length ≤ 4200)
    {n : Nat} {xs : List Value} (hown : w'.ownsRow w.heap.size 5 1 b' n xs) (hn : n = bs.length + (Txt.bytes l).size) (hxs : xs = Lib.byteCells bs ++ Lib.strCells (Txt.bytes l)) (hg : wr.grownBy w' b.ownBlock) : RS w c B (M + 4200) k b' s (bs ++ l) st w' := by
  subst hn hxs
  have e : Lib.strCells (Txt.bytes l) = Lib.byteCells l := by simp [Lib.strCells, Lib.byteCells, Txt.bytes]
  rw [e, bytes_size] at hown
  refine ⟨h.ps.puts (OwnB.appended hown rfl) hg, h.be.grown hg h.be.size h.ps.b.own_ge, by rw [List.length_append]; have := h.len; omega, h.dep, ?_⟩
  unfold Box
  rw [hg.block B h.box.lt fun e => box_b h.ps.b h.box e.symm]
  exact h.box
theorem RS.putByte {w : World} {c : Cl} {B M k : Nat} {b b' s : Value} {bs : List UInt8} {st : List Opn} {wr w' : World} {o : Obj} (h : RS w c B M k b s bs st wr) (d : UInt8)
    {n : Nat} {xs : List Value} (hown : w'.ownsRow w.heap.size 5 1 b' n xs) (hn : n = bs.length + 1) (hxs : xs = Lib.byteCells bs ++ Lib.byteCells [d]) (hg : (wr.alloc o).grownBy w' b.ownBlock) : RS w c B (M + 1) k b' s (bs ++ [d]) st w' := by
  subst hn hxs
  have h' := h.alloc o
  refine ⟨h'.ps.puts (OwnB.appended (u := [d]) hown (by simp)) hg, h'.be.grown hg h'.be.size h'.ps.b.own_ge, by rw [List.length_append, List.length_cons, List.length_nil]; have := h.len; omega, h.dep, ?_⟩
  unfold Box
  rw [hg.block B h'.box.lt fun e => box_b h'.ps.b h'.box e.symm]
  exact h'.box
theorem RS.pushOne {w : World} {c : Cl} {B M k : Nat} {b s s' : Value} {bs : List UInt8} {st : List Opn} {wr w' : World} {ob : Obj} (h : RS w c B M k b s bs st wr) (o : Opn) (ho : 0 ≤ o.left ∧ o.left ≤ 255)
    {n : Nat} {xs : List Value} (hown : w'.ownsRow w.heap.size 107 3 s' n xs) (hn : n = st.length + 1) (hxs : xs = ovs st.reverse ++ ov o) (hg : (wr.alloc ob).grownBy w' s.ownBlock) (hl : s'.ownBlock = s.ownBlock ∨ s'.ownBlock = some (wr.alloc ob).heap.size) : RS w c B M (k + 1) b s' bs (o :: st) w' := by
  subst hn hxs
  have h' := h.alloc ob
  refine ⟨h'.ps.push (OwnS.pushed hown) ho hg hl, h'.be.grown hg h'.be.size (fun g hg => (World.ownsRow.lt h'.ps.s g hg).1), h.len, by have := h.dep; rw [List.length_cons]; omega, ?_⟩
  unfold Box
  rw [hg.block B h'.box.lt fun e => box_s h'.ps.s h'.box e.symm]
  exact h'.box
theorem RS.setTail {w : World} {c : Cl} {B M k g n cap : Nat} {b : Value} {bs : List UInt8} {r : List Opn} {ol : Int} {oli : Bool} {wr : World} (h : RS w c B M k b (.slice (some ⟨g, 0, none⟩) n cap) bs (⟨ol, oli, true⟩ :: r) wr)
    (hset : ∀ (j : Nat) (u : Value) (o' : Opn), (ov ⟨ol, oli, true⟩).set j u = ov o' → j < 3 → (0 ≤ o'.left ∧ o'.left ≤ 255) → PS w.heap.size (wr.setCell ⟨g, r.length * 3 + j, none⟩ u) b (.slice (some ⟨g, 0, none⟩) n cap) bs (o' :: r) ∧ wr.grownBy (wr.setCell ⟨g, r.length * 3 + j, none⟩ u) (some g)) (hg : w.heap.size ≤ g) :
    RS w c B M k b (.slice (some ⟨g, 0, none⟩) n cap) bs (⟨ol, oli, false⟩ :: r) (wr.setCell ⟨g, r.length * 3 + 2, none⟩ (.bool false)) := by
  obtain ⟨h1, h2⟩ := hset 2 (.bool false) ⟨ol, oli, false⟩ rfl (by omega) (h.ps.small ⟨ol, oli, true⟩ (by simp))
  refine ⟨h1, h.be.grown h2 h.be.size (by rintro k ⟨⟩; exact hg), h.len, h.dep, ?_⟩
  unfold Box
  rw [h2.block B h.box.lt fun e => box_s h.ps.s h.box (by simp only [Value.ownBlock]; exact e.symm)]
  exact h.box
theorem RS.popOne {w : World} {c : Cl} {B M k g n m cap cap' : Nat} {b : Value} {bs : List UInt8} {o : Opn} {r : List Opn} {wr : World} (h : RS w c B M k b (.slice (some ⟨g, 0, none⟩) n cap) bs (o :: r) wr)
    (hp : PS w.heap.size wr b (.slice (some ⟨g, 0, none⟩) m cap') bs r) : RS w c B M k b (.slice (some ⟨g, 0, none⟩) m cap') bs r wr :=
  ⟨hp, h.be, h.len, by have := h.dep; simp at this; omega, h.box⟩
/-- What holds of the printer's loop. -/
structure PR1 (w : World) (t : List Cl) (R : Option (List UInt8)) (k : Nat) (b s : Value) (bs : List UInt8) (st : List Opn) (wr : World) : Prop where
  ps : PS w.heap.size wr b s bs st
  eq : printF (t.drop k) bs st = R
  be : Below w.heap.size w wr
  len : bs.length ≤ 80000
  dep : st.length ≤ k
  hk : k ≤ t.length

set_option maxHeartbeats 40000000 in
set_option maxRecDepth 100000 in
theorem print_calls (x : Value) (t : List Cl) (w : World) (hx : SeesT w x t) (hto : TextsOk t) (hf : ∀ c ∈ t, fits c) (ht : Tabs w) :
    Calls Tryz.prog 49 #[x] w fun e w' => e = .returned (.tuple #[.string (Txt.bytes (print t).1), .int .i64 (print t).2]) ∧ Below w.heap.size w w' := by
  obtain ⟨i0, hi, hz0, hz1, hz2⟩ := info_parts info_u8
  obtain ⟨i1, hi1, hy0, hy1, hy2⟩ := info_parts info_open
  have HX := Lib.hid hx
  obtain ⟨A, cap, rfl, hcap, -⟩ := hx
  have HT := Lib.hid ht; clear ht
  have HTO := Lib.hid hto; clear hto
  have HFI := Lib.hid hf; clear hf
  have hrr := right_calls (.slice A t.length cap) t (right t).1 (right t).2 w HX.out HTO.out HT.out rfl
  by_cases hr : (right t).1 = 0
  · obtain ⟨hlen, hall⟩ := right_cells hr
    have HALL := Lib.hid hall; clear hall
    rw [hr] at hrr
    have HRR := Lib.hid hrr; clear hrr
    have hpr : print t = match printF t [] [] with | none => ([], 4) | some b => (b, 0) := by
      unfold print; rw [if_neg (by omega)]
      cases printF t [] [] <;> rfl
    rw [hpr]
    clear hpr hr
    generalize hR : printF t [] [] = R
    have HR := Lib.hid hR; clear hR
    go_enter Tryz.func49, Tryz.ntmps49
    go_wp2_with fail
    refine (HRR.out).mono ?_
    rintro e w1 ⟨rfl, hb1⟩
    have HB1 := Lib.hid hb1; clear hb1
    go_wp2_with fail
    go_loopw [6, 7, 21] (fun b s i wr => ∃ k bs st, i = .int .i64 (k : Nat) ∧ PR1 w t R k b s bs st wr) (fun _ _ i _ => t.length - (intOf i).toNat)
    case atStart => exact ⟨0, [], [], rfl, PS.nil _ _, HR.out, HB1.out, by simp, Nat.le_refl _, Nat.zero_le _⟩
    case round =>
      obtain ⟨k, bs, st, rfl, hp⟩ := hrel
      have HP := Lib.hid hp
      have hkl := hp.hk
      have hbl := hp.len
      have hdp := hp.dep
      clear hp
      obtain ⟨⟨A1, c1, rfl⟩, ⟨A2, c2, rfl⟩⟩ := HP.out.ps.slices
      by_cases hlt : k < t.length
      · have hR' := HP.out.eq
        rw [List.drop_eq_getElem_cons hlt, printF] at hR'
        obtain ⟨ad, _, hxe, _, hadl, d0, d1, d2⟩ := HX.out.at k hlt
        obtain rfl : A = some ad := by injection hxe
        clear hxe
        have hce := HALL.out t[k] (List.getElem_mem hlt)
        have hfi := HFI.out t[k] (List.getElem_mem hlt)
        have hbe := HP.out.be
        have e0 : wr.cell? (ad.add (k * 3)) = some (.int .i64 t[k].kind) := (hbe.cell (p := ad.add (k * 3)) (by rw [add_block]; exact hadl)).trans d0
        have e1 : wr.cell? ⟨(ad.add (k * 3)).block, (ad.add (k * 3)).off + 1, none⟩ = some (.int .i64 t[k].n) := (hbe.cell (p := ⟨(ad.add (k * 3)).block, (ad.add (k * 3)).off + 1, none⟩) (by simp only; rw [add_block]; exact hadl)).trans d1
        have e2 : wr.cell? ⟨(ad.add (k * 3)).block, (ad.add (k * 3)).off + 2, none⟩ = some (.string t[k].text) := (hbe.cell (p := ⟨(ad.add (k * 3)).block, (ad.add (k * 3)).off + 2, none⟩) (by simp only; rw [add_block]; exact hadl)).trans d2
        clear d0 d1 d2 hadl hbe
        have HE := Lib.hid hR'; clear hR'
        have hcell := cell_ok hce
        have HCE := Lib.hid hce; clear hce
        have HCF := Lib.hid hfi; clear hfi
        have HCL := Lib.hid hcell; clear hcell
        have HK := Lib.hid hlt
        by_cases hbig : 65536 < bs.length
        · have hE := HE.out
          rw [if_pos hbig] at hE
          subst hE
          have HBE := Lib.hid HP.out.be
          clear HP HR HE
          have h1 : decide ((65536 : Int) < (bs.length : Int)) = true := by simp; omega
          go_wp2_with fail
          go_ret2
          exact ⟨rfl, HBE.out.alloc HBE.out.size _⟩
        · have hE := HE.out
          rw [if_neg hbig] at hE
          have HE2 := Lib.hid hE; clear hE HE
          have h1 : decide ((65536 : Int) < (bs.length : Int)) = false := by simp; omega
          have HNB := Lib.hid hbig; clear hbig
          -- what a round leaves
          have hend : ∀ (wf : World) (bv sv : Value) (bs' : List UInt8) (st' : List Opn), PS w.heap.size wf bv sv bs' st' → Below w.heap.size w wf → bs' = bs ++ (printC t[k] st).1 → st' = (printC t[k] st).2 → bs'.length ≤ 80000 → st'.length ≤ k + 1 → (∃ k' bs st, Value.int .i64 ((k : Int) + 1) = .int .i64 ((k' : Nat) : Int) ∧ PR1 w t R k' bv sv bs st wf) := by
            intro wf bv sv bs' st' h1 h2 h3 h4 h5 h6
            refine ⟨k + 1, bs', st', by simp, h1, ?_, h2, h5, h6, HK.out⟩
            rw [h3, h4]; exact HE2.out
          have HEND := Lib.hid hend; clear hend HE2
          generalize t[k] = c at *
          obtain ⟨ck, cn, cx⟩ := c
          simp only at e0 e1 e2
          have HB0 : Hid (RS w ⟨ck, cn, cx⟩ wr.heap.size 70000 k (.slice A1 bs.length c1) (.slice A2 st.length c2) bs st (wr.alloc (.cells #[.int .i64 ck, .int .i64 cn, .string cx] 74))) :=
            Lib.hid ⟨HP.out.ps.alloc _, HP.out.be.alloc HP.out.be.size _, by have := HNB.out; omega, hdp, heap_alloc_new wr _⟩
          clear HP
          have hgl : wr.heap.size < (wr.alloc (.cells #[.int .i64 ck, .int .i64 cn, .string cx] 74)).heap.size := by simp
          obtain ⟨x0, x1, x2⟩ := HB0.out.box.cells
          simp only at x0 x1 x2
          go_upto_region 9 with (fail)
          generalize wr.alloc (.cells #[.int .i64 ck, .int .i64 cn, .string cx] 74) = wb at *
          generalize wr.heap.size = B9 at *
          clear e0 e1 e2
          -- MARK BEGIN
          cases st with
          | nil =>
            have hn0 : decide ((0 : Int) < (([] : List Opn).length : Int)) = false := rfl
            by_cases h7 : ck = 7
            · subst h7
              go_wp2_with (at_builtin; refine wpList_append_own_at _ rfl _ _ 91 rfl w.heap.size 5 i0 (.int .u8 0) 1 1 Tryz.underlying91 hi hz0 hz1 hz2 rfl (by decide) _ _ _ rfl (World.ownsRow.alloc HB0.out.ps.b _) ⟨_, 0, none⟩ 1 1 (Lib.byteCells [91]) rfl rfl ?a1 (byteCells_oneCell _) ?b1 ?c1 ?d1 ?_)
              case a1 => first | exact new_list _ (Lib.byteCells [91]) _ _ (by first | rfl | simp) | exact fun j u h => h
              case b1 => have := HB0.out.len; unfold maxLen; omega
              case c1 => have := HB0.out.len; omega
              case d1 => have := HB0.out.be.size; first | omega | (simp; omega)
              intro bv1 w1 hown hgrow _ hlies
              have HS1 := Lib.hid (HB0.out.putByte 91 hown (by simp) (by simp [Lib.byteCells]) hgrow)
              clear hown hgrow hlies
              obtain ⟨x0, x1, x2⟩ := HS1.out.box.cells
              simp only at x0 x1 x2
              obtain ⟨A1, n1, e1, rfl⟩ := own_slice HS1.out.ps.b
              go_wp2_with (at_builtin; refine wpList_append_own_at _ rfl _ _ 105 rfl w.heap.size 107 i1 (.agg #[.int .i64 0, .bool false, .bool false]) 3 16 Tryz.underlying105 hi1 hy0 hy1 hy2 rfl (by decide) _ _ _ rfl (World.ownsRow.alloc HS1.out.ps.s _) ⟨_, 0, none⟩ 1 1 (ov ⟨0, true, false⟩) rfl rfl ?a2 (ov_oneCell _) ?b2 ?c2 ?d2 ?_)
              case a2 => first | exact new_list _ (ov ⟨0, true, false⟩) _ _ (by first | rfl | simp) | exact fun j u h => h
              case b2 => have := HS1.out.dep; have := HK.out; unfold maxLen; omega
              case c2 => have := HS1.out.dep; have := HK.out; omega
              case d2 => have := HS1.out.be.size; first | omega | (simp; omega)
              intro sv2 w2 hown hgrow _ hlies
              have HF := Lib.hid (HS1.out.pushOne ⟨0, true, false⟩ ⟨by decide, by decide⟩ hown (by simp) (by simp [ovs_append]) hgrow (by simpa using hlies))
              clear hown hgrow hlies
              obtain ⟨A2, n2, e2, rfl⟩ := own_slice HF.out.ps.s
              have HEN := Lib.hid (HEND.out _ _ _ _ _ HF.out.ps HF.out.be (by rw [printC_calm (st := []) trivial, if_pos rfl]; try simp) (by rw [printC_calm (st := []) trivial, if_pos rfl]) (by have := HF.out.len; omega) (by have := HF.out.dep; omega))
              go_wp2
              go_roundw
              case rel => exact HEN.out
              case measure => have := HK.out; simp [intOf]; omega
            · have h7b : (ck == 7) = false := by simpa using h7
              by_cases h5 : ck = 5
              · subst h5
                by_cases hn : 0 < cn
                · have hnd : decide ((0 : Int) < cn) = true := by simpa using hn
                  have HNP : Hid (0 < cn) := Lib.hid hn
                  go_wp2_with (at_builtin; refine wpList_append_own_at _ rfl _ _ 91 rfl w.heap.size 5 i0 (.int .u8 0) 1 1 Tryz.underlying91 hi hz0 hz1 hz2 rfl (by decide) _ _ _ rfl (World.ownsRow.alloc HB0.out.ps.b _) ⟨_, 0, none⟩ 1 1 (Lib.byteCells [123]) rfl rfl ?a3 (byteCells_oneCell _) ?b3 ?c3 ?d3 ?_)
                  case a3 => first | exact new_list _ (Lib.byteCells [123]) _ _ (by first | rfl | simp) | exact fun j u h => h
                  case b3 => have := HB0.out.len; unfold maxLen; omega
                  case c3 => have := HB0.out.len; omega
                  case d3 => have := HB0.out.be.size; first | omega | (simp; omega)
                  intro bv3 w3 hown hgrow _ hlies
                  have HS3 := Lib.hid (HB0.out.putByte 123 hown (by simp) (by simp [Lib.byteCells]) hgrow)
                  clear hown hgrow hlies
                  obtain ⟨x0, x1, x2⟩ := HS3.out.box.cells
                  simp only at x0 x1 x2
                  obtain ⟨A3, n3, e3, rfl⟩ := own_slice HS3.out.ps.b
                  go_wp2_with (at_builtin; refine wpList_append_own_at _ rfl _ _ 105 rfl w.heap.size 107 i1 (.agg #[.int .i64 0, .bool false, .bool false]) 3 16 Tryz.underlying105 hi1 hy0 hy1 hy2 rfl (by decide) _ _ _ rfl (World.ownsRow.alloc HS3.out.ps.s _) ⟨_, 0, none⟩ 1 1 (ov ⟨cn, false, false⟩) rfl rfl ?a4 (ov_oneCell _) ?b4 ?c4 ?d4 ?_)
                  case a4 => first | exact new_list _ (ov ⟨cn, false, false⟩) _ _ (by first | rfl | simp) | exact fun j u h => h
                  case b4 => have := HS3.out.dep; have := HK.out; unfold maxLen; omega
                  case c4 => have := HS3.out.dep; have := HK.out; omega
                  case d4 => have := HS3.out.be.size; first | omega | (simp; omega)
                  intro sv4 w4 hown hgrow _ hlies
                  have HF := Lib.hid (HS3.out.pushOne ⟨cn, false, false⟩ (by have h := HCL.out.2.2.2.2.2.2.1 (by first | rfl | trivial); simpa using h) hown (by simp) (by simp [ovs_append]) hgrow (by simpa using hlies))
                  clear hown hgrow hlies
                  obtain ⟨A4, n4, e4, rfl⟩ := own_slice HF.out.ps.s
                  have HEN := Lib.hid (HEND.out _ _ _ _ _ HF.out.ps HF.out.be (by rw [printC_calm (st := []) trivial, if_neg h7, if_pos ⟨rfl, HNP.out⟩]; try simp) (by rw [printC_calm (st := []) trivial, if_neg h7, if_pos ⟨rfl, HNP.out⟩]) (by have := HF.out.len; omega) (by have := HF.out.dep; omega))
                  go_wp2
                  go_roundw
                  case rel => exact HEN.out
                  case measure => have := HK.out; simp [intOf]; omega
                · have hnd : decide ((0 : Int) < cn) = false := by simpa using hn
                  have HNC : Hid (¬ 0 < cn) := Lib.hid hn
                  clear hn
                  go_wp2_with fail
                  refine (leaf_calls ⟨5, cn, cx⟩ _ HCE.out HCF.out h7 (HT.out.below HB0.out.be)).mono ?_
                  rintro e wl ⟨rfl, hbl⟩
                  have HL5 := Lib.hid (HB0.out.later hbl)
                  clear hbl
                  have hll := leaf_len HCE.out HCF.out h7
                  have hlz : (Txt.bytes (leaf ⟨5, cn, cx⟩)).size = (leaf ⟨5, cn, cx⟩).length := bytes_size _
                  have HLZ := Lib.hid hlz; clear hlz
                  go_wp2_with (at_builtin; refine Lib.wpList_append_own_string _ rfl _ _ 91 9 rfl w.heap.size 5 i0 Tryz.underlying91 Tryz.underlying9 hi hz0 hz1 hz2 _ _ _ rfl HL5.out.ps.b _ rfl ?b5 ?c5 ?d5 ?_)
                  case b5 => have := HL5.out.len; have := HLZ.out; unfold maxLen; omega
                  case c5 => have := HL5.out.len; have := HLZ.out; omega
                  case d5 => exact HL5.out.be.size
                  intro bv5 w5 hown hgrow _
                  have HS5 := Lib.hid (HL5.out.putText (leaf ⟨5, cn, cx⟩) hll hown (by simp) (by simp [Lib.byteCells]) hgrow)
                  clear hown hgrow hll
                  obtain ⟨A5, n5, e5, rfl⟩ := own_slice HS5.out.ps.b
                  go_wp2_with fail
                  refine (closed_calls w.heap.size _ _ _ _ _ HS5.out.ps HS5.out.be.size (by have := HS5.out.len; have := HS5.out.dep; have := HK.out; omega)).mono ?_
                  rintro e wc ⟨bvc, svc, rfl, hpsc, hbec⟩
                  have hcl := closed_len []
                  have HEN := Lib.hid (HEND.out _ _ _ _ _ hpsc (HS5.out.be.trans hbec) (by rw [printC_calm (st := []) trivial, if_neg h7, if_neg (fun x => by have h1 := HNC.out; have h2 : cn > 0 := x.2; omega)]; try simp) (by rw [printC_calm (st := []) trivial, if_neg h7, if_neg (fun x => by have h1 := HNC.out; have h2 : cn > 0 := x.2; omega)]) (by have := HS5.out.len; have := HS5.out.dep; have := HK.out; rw [List.length_append]; omega) (by have := HS5.out.dep; omega))
                  obtain ⟨Ac, nc, ec, rfl⟩ := own_slice hpsc.b
                  obtain ⟨As, ns, es, rfl⟩ := own_slice hpsc.s
                  clear hpsc hbec hcl
                  go_wp2
                  go_roundw
                  case rel => exact HEN.out
                  case measure => have := HK.out; simp [intOf]; omega
              · have h5b : (ck == 5) = false := by simpa using h5
                have HN5 : Hid (¬ (ck = 5 ∧ cn > 0)) := Lib.hid fun x => h5 x.1
                go_wp2_with fail
                refine (leaf_calls ⟨ck, cn, cx⟩ _ HCE.out HCF.out h7 (HT.out.below HB0.out.be)).mono ?_
                rintro e wl ⟨rfl, hbl⟩
                have HL6 := Lib.hid (HB0.out.later hbl)
                clear hbl
                have hll := leaf_len HCE.out HCF.out h7
                have hlz : (Txt.bytes (leaf ⟨ck, cn, cx⟩)).size = (leaf ⟨ck, cn, cx⟩).length := bytes_size _
                have HLZ := Lib.hid hlz; clear hlz
                go_wp2_with (at_builtin; refine Lib.wpList_append_own_string _ rfl _ _ 91 9 rfl w.heap.size 5 i0 Tryz.underlying91 Tryz.underlying9 hi hz0 hz1 hz2 _ _ _ rfl HL6.out.ps.b _ rfl ?b6 ?c6 ?d6 ?_)
                case b6 => have := HL6.out.len; have := HLZ.out; unfold maxLen; omega
                case c6 => have := HL6.out.len; have := HLZ.out; omega
                case d6 => exact HL6.out.be.size
                intro bv6 w6 hown hgrow _
                have HS6 := Lib.hid (HL6.out.putText (leaf ⟨ck, cn, cx⟩) hll hown (by simp) (by simp [Lib.byteCells]) hgrow)
                clear hown hgrow hll
                obtain ⟨A6, n6, e6, rfl⟩ := own_slice HS6.out.ps.b
                go_wp2_with fail
                refine (closed_calls w.heap.size _ _ _ _ _ HS6.out.ps HS6.out.be.size (by have := HS6.out.len; have := HS6.out.dep; have := HK.out; omega)).mono ?_
                rintro e wc ⟨bvc, svc, rfl, hpsc, hbec⟩
                have hcl := closed_len []
                have HEN := Lib.hid (HEND.out _ _ _ _ _ hpsc (HS6.out.be.trans hbec) (by rw [printC_calm (st := []) trivial, if_neg h7, if_neg HN5.out]; try simp) (by rw [printC_calm (st := []) trivial, if_neg h7, if_neg HN5.out]) (by have := HS6.out.len; have := HS6.out.dep; have := HK.out; rw [List.length_append]; omega) (by have := HS6.out.dep; omega))
                obtain ⟨Ac, nc, ec, rfl⟩ := own_slice hpsc.b
                obtain ⟨As, ns, es, rfl⟩ := own_slice hpsc.s
                clear hpsc hbec hcl
                go_wp2
                go_roundw
                case rel => exact HEN.out
                case measure => have := HK.out; simp [intOf]; omega
          | cons o r =>
            obtain ⟨g, cap', he, hgb, hglt, hncap, hcapm, -, -, c2t, hfz, hset, hpop⟩ := HB0.out.ps.top
            simp only [List.length_cons, Value.slice.injEq] at he
            obtain ⟨rfl, -, rfl⟩ := he
            have HSET := Lib.hid hset; clear hset
            have HPOP := Lib.hid hpop; clear hpop
            unfold maxLen at hcapm
            obtain ⟨ol, oli, ot⟩ := o
            simp only at c2t
            cases ot with
            | false =>
              by_cases h7 : ck = 7
              · subst h7
                go_wp2_with (at_builtin; refine wpList_append_own_at _ rfl _ _ 91 rfl w.heap.size 5 i0 (.int .u8 0) 1 1 Tryz.underlying91 hi hz0 hz1 hz2 rfl (by decide) _ _ _ rfl (World.ownsRow.alloc HB0.out.ps.b _) ⟨_, 0, none⟩ 1 1 (Lib.byteCells [91]) rfl rfl ?a7 (byteCells_oneCell _) ?b7 ?c7 ?d7 ?_)
                case a7 => first | exact new_list _ (Lib.byteCells [91]) _ _ (by first | rfl | simp) | exact fun j u h => h
                case b7 => have := HB0.out.len; unfold maxLen; omega
                case c7 => have := HB0.out.len; omega
                case d7 => have := HB0.out.be.size; first | omega | (simp; omega)
                intro bv7 w7 hown hgrow _ hlies
                have HS7 := Lib.hid (HB0.out.putByte 91 hown (by simp) (by simp [Lib.byteCells]) hgrow)
                clear hown hgrow hlies
                obtain ⟨x0, x1, x2⟩ := HS7.out.box.cells
                simp only at x0 x1 x2
                obtain ⟨A7, n7, e7, rfl⟩ := own_slice HS7.out.ps.b
                go_wp2_with (at_builtin; refine wpList_append_own_at _ rfl _ _ 105 rfl w.heap.size 107 i1 (.agg #[.int .i64 0, .bool false, .bool false]) 3 16 Tryz.underlying105 hi1 hy0 hy1 hy2 rfl (by decide) _ _ _ rfl (World.ownsRow.alloc HS7.out.ps.s _) ⟨_, 0, none⟩ 1 1 (ov ⟨0, true, false⟩) rfl rfl ?a8 (ov_oneCell _) ?b8 ?c8 ?d8 ?_)
                case a8 => first | exact new_list _ (ov ⟨0, true, false⟩) _ _ (by first | rfl | simp) | exact fun j u h => h
                case b8 => have := HS7.out.dep; have := HK.out; unfold maxLen; omega
                case c8 => have := HS7.out.dep; have := HK.out; omega
                case d8 => have := HS7.out.be.size; first | omega | (simp; omega)
                intro sv8 w8 hown hgrow _ hlies
                have HF := Lib.hid (HS7.out.pushOne ⟨0, true, false⟩ ⟨by decide, by decide⟩ hown (by simp) (by simp [ovs_append]) hgrow (by simpa using hlies))
                clear hown hgrow hlies
                obtain ⟨A8, n8, e8, rfl⟩ := own_slice HF.out.ps.s
                have HEN := Lib.hid (HEND.out _ _ _ _ _ HF.out.ps HF.out.be (by rw [printC_calm (st := ⟨ol, oli, false⟩ :: r) rfl, if_pos rfl]; try simp) (by rw [printC_calm (st := ⟨ol, oli, false⟩ :: r) rfl, if_pos rfl]) (by have := HF.out.len; omega) (by have := HF.out.dep; omega))
                go_wp2
                go_roundw
                case rel => exact HEN.out
                case measure => have := HK.out; simp [intOf]; omega
              · have h7b : (ck == 7) = false := by simpa using h7
                by_cases h5 : ck = 5
                · subst h5
                  by_cases hn : 0 < cn
                  · have hnd : decide ((0 : Int) < cn) = true := by simpa using hn
                    have HNP : Hid (0 < cn) := Lib.hid hn
                    go_wp2_with (at_builtin; refine wpList_append_own_at _ rfl _ _ 91 rfl w.heap.size 5 i0 (.int .u8 0) 1 1 Tryz.underlying91 hi hz0 hz1 hz2 rfl (by decide) _ _ _ rfl (World.ownsRow.alloc HB0.out.ps.b _) ⟨_, 0, none⟩ 1 1 (Lib.byteCells [123]) rfl rfl ?a9 (byteCells_oneCell _) ?b9 ?c9 ?d9 ?_)
                    case a9 => first | exact new_list _ (Lib.byteCells [123]) _ _ (by first | rfl | simp) | exact fun j u h => h
                    case b9 => have := HB0.out.len; unfold maxLen; omega
                    case c9 => have := HB0.out.len; omega
                    case d9 => have := HB0.out.be.size; first | omega | (simp; omega)
                    intro bv9 w9 hown hgrow _ hlies
                    have HS9 := Lib.hid (HB0.out.putByte 123 hown (by simp) (by simp [Lib.byteCells]) hgrow)
                    clear hown hgrow hlies
                    obtain ⟨x0, x1, x2⟩ := HS9.out.box.cells
                    simp only at x0 x1 x2
                    obtain ⟨A9, n9, e9, rfl⟩ := own_slice HS9.out.ps.b
                    go_wp2_with (at_builtin; refine wpList_append_own_at _ rfl _ _ 105 rfl w.heap.size 107 i1 (.agg #[.int .i64 0, .bool false, .bool false]) 3 16 Tryz.underlying105 hi1 hy0 hy1 hy2 rfl (by decide) _ _ _ rfl (World.ownsRow.alloc HS9.out.ps.s _) ⟨_, 0, none⟩ 1 1 (ov ⟨cn, false, false⟩) rfl rfl ?a10 (ov_oneCell _) ?b10 ?c10 ?d10 ?_)
                    case a10 => first | exact new_list _ (ov ⟨cn, false, false⟩) _ _ (by first | rfl | simp) | exact fun j u h => h
                    case b10 => have := HS9.out.dep; have := HK.out; unfold maxLen; omega
                    case c10 => have := HS9.out.dep; have := HK.out; omega
                    case d10 => have := HS9.out.be.size; first | omega | (simp; omega)
                    intro sv10 w10 hown hgrow _ hlies
                    have HF := Lib.hid (HS9.out.pushOne ⟨cn, false, false⟩ (by have h := HCL.out.2.2.2.2.2.2.1 (by first | rfl | trivial); simpa using h) hown (by simp) (by simp [ovs_append]) hgrow (by simpa using hlies))
                    clear hown hgrow hlies
                    obtain ⟨A10, n10, e10, rfl⟩ := own_slice HF.out.ps.s
                    have HEN := Lib.hid (HEND.out _ _ _ _ _ HF.out.ps HF.out.be (by rw [printC_calm (st := ⟨ol, oli, false⟩ :: r) rfl, if_neg h7, if_pos ⟨rfl, HNP.out⟩]; try simp) (by rw [printC_calm (st := ⟨ol, oli, false⟩ :: r) rfl, if_neg h7, if_pos ⟨rfl, HNP.out⟩]) (by have := HF.out.len; omega) (by have := HF.out.dep; omega))
                    go_wp2
                    go_roundw
                    case rel => exact HEN.out
                    case measure => have := HK.out; simp [intOf]; omega
                  · have hnd : decide ((0 : Int) < cn) = false := by simpa using hn
                    have HNC : Hid (¬ 0 < cn) := Lib.hid hn
                    clear hn
                    go_wp2_with fail
                    refine (leaf_calls ⟨5, cn, cx⟩ _ HCE.out HCF.out h7 (HT.out.below HB0.out.be)).mono ?_
                    rintro e wl ⟨rfl, hbl⟩
                    have HL11 := Lib.hid (HB0.out.later hbl)
                    clear hbl
                    have hll := leaf_len HCE.out HCF.out h7
                    have hlz : (Txt.bytes (leaf ⟨5, cn, cx⟩)).size = (leaf ⟨5, cn, cx⟩).length := bytes_size _
                    have HLZ := Lib.hid hlz; clear hlz
                    go_wp2_with (at_builtin; refine Lib.wpList_append_own_string _ rfl _ _ 91 9 rfl w.heap.size 5 i0 Tryz.underlying91 Tryz.underlying9 hi hz0 hz1 hz2 _ _ _ rfl HL11.out.ps.b _ rfl ?b11 ?c11 ?d11 ?_)
                    case b11 => have := HL11.out.len; have := HLZ.out; unfold maxLen; omega
                    case c11 => have := HL11.out.len; have := HLZ.out; omega
                    case d11 => exact HL11.out.be.size
                    intro bv11 w11 hown hgrow _
                    have HS11 := Lib.hid (HL11.out.putText (leaf ⟨5, cn, cx⟩) hll hown (by simp) (by simp [Lib.byteCells]) hgrow)
                    clear hown hgrow hll
                    obtain ⟨A11, n11, e11, rfl⟩ := own_slice HS11.out.ps.b
                    go_wp2_with fail
                    refine (closed_calls w.heap.size _ _ _ _ _ HS11.out.ps HS11.out.be.size (by have := HS11.out.len; have := HS11.out.dep; have := HK.out; omega)).mono ?_
                    rintro e wc ⟨bvc, svc, rfl, hpsc, hbec⟩
                    have hcl := closed_len (⟨ol, oli, false⟩ :: r)
                    have HEN := Lib.hid (HEND.out _ _ _ _ _ hpsc (HS11.out.be.trans hbec) (by rw [printC_calm (st := ⟨ol, oli, false⟩ :: r) rfl, if_neg h7, if_neg (fun x => by have h1 := HNC.out; have h2 : cn > 0 := x.2; omega)]; try simp) (by rw [printC_calm (st := ⟨ol, oli, false⟩ :: r) rfl, if_neg h7, if_neg (fun x => by have h1 := HNC.out; have h2 : cn > 0 := x.2; omega)]) (by have := HS11.out.len; have := HS11.out.dep; have := HK.out; rw [List.length_append]; omega) (by have := HS11.out.dep; omega))
                    obtain ⟨Ac, nc, ec, rfl⟩ := own_slice hpsc.b
                    obtain ⟨As, ns, es, rfl⟩ := own_slice hpsc.s
                    clear hpsc hbec hcl
                    go_wp2
                    go_roundw
                    case rel => exact HEN.out
                    case measure => have := HK.out; simp [intOf]; omega
                · have h5b : (ck == 5) = false := by simpa using h5
                  have HN5 : Hid (¬ (ck = 5 ∧ cn > 0)) := Lib.hid fun x => h5 x.1
                  go_wp2_with fail
                  refine (leaf_calls ⟨ck, cn, cx⟩ _ HCE.out HCF.out h7 (HT.out.below HB0.out.be)).mono ?_
                  rintro e wl ⟨rfl, hbl⟩
                  have HL12 := Lib.hid (HB0.out.later hbl)
                  clear hbl
                  have hll := leaf_len HCE.out HCF.out h7
                  have hlz : (Txt.bytes (leaf ⟨ck, cn, cx⟩)).size = (leaf ⟨ck, cn, cx⟩).length := bytes_size _
                  have HLZ := Lib.hid hlz; clear hlz
                  go_wp2_with (at_builtin; refine Lib.wpList_append_own_string _ rfl _ _ 91 9 rfl w.heap.size 5 i0 Tryz.underlying91 Tryz.underlying9 hi hz0 hz1 hz2 _ _ _ rfl HL12.out.ps.b _ rfl ?b12 ?c12 ?d12 ?_)
                  case b12 => have := HL12.out.len; have := HLZ.out; unfold maxLen; omega
                  case c12 => have := HL12.out.len; have := HLZ.out; omega
                  case d12 => exact HL12.out.be.size
                  intro bv12 w12 hown hgrow _
                  have HS12 := Lib.hid (HL12.out.putText (leaf ⟨ck, cn, cx⟩) hll hown (by simp) (by simp [Lib.byteCells]) hgrow)
                  clear hown hgrow hll
                  obtain ⟨A12, n12, e12, rfl⟩ := own_slice HS12.out.ps.b
                  go_wp2_with fail
                  refine (closed_calls w.heap.size _ _ _ _ _ HS12.out.ps HS12.out.be.size (by have := HS12.out.len; have := HS12.out.dep; have := HK.out; omega)).mono ?_
                  rintro e wc ⟨bvc, svc, rfl, hpsc, hbec⟩
                  have hcl := closed_len (⟨ol, oli, false⟩ :: r)
                  have HEN := Lib.hid (HEND.out _ _ _ _ _ hpsc (HS12.out.be.trans hbec) (by rw [printC_calm (st := ⟨ol, oli, false⟩ :: r) rfl, if_neg h7, if_neg HN5.out]; try simp) (by rw [printC_calm (st := ⟨ol, oli, false⟩ :: r) rfl, if_neg h7, if_neg HN5.out]) (by have := HS12.out.len; have := HS12.out.dep; have := HK.out; rw [List.length_append]; omega) (by have := HS12.out.dep; omega))
                  obtain ⟨Ac, nc, ec, rfl⟩ := own_slice hpsc.b
                  obtain ⟨As, ns, es, rfl⟩ := own_slice hpsc.s
                  clear hpsc hbec hcl
                  go_wp2
                  go_roundw
                  case rel => exact HEN.out
                  case measure => have := HK.out; simp [intOf]; omega
            | true =>
              by_cases h7 : ck = 7
              · subst h7
                go_wp2_with (at_builtin; refine wpList_append_own_at _ rfl _ _ 91 rfl w.heap.size 5 i0 (.int .u8 0) 1 1 Tryz.underlying91 hi hz0 hz1 hz2 rfl (by decide) _ _ _ rfl (World.ownsRow.alloc HB0.out.ps.b _) ⟨_, 0, none⟩ 1 1 (Lib.byteCells [44]) rfl rfl ?a13 (byteCells_oneCell _) ?b13 ?c13 ?d13 ?_)
                case a13 => first | exact new_list _ (Lib.byteCells [44]) _ _ (by first | rfl | simp) | exact fun j u h => h
                case b13 => have := HB0.out.len; unfold maxLen; omega
                case c13 => have := HB0.out.len; omega
                case d13 => have := HB0.out.be.size; first | omega | (simp; omega)
                intro bv13 w13 hown hgrow _ hlies
                have HS13 := Lib.hid (HB0.out.putByte 44 hown (by simp) (by simp [Lib.byteCells]) hgrow)
                clear hown hgrow hlies
                obtain ⟨x0, x1, x2⟩ := HS13.out.box.cells
                simp only at x0 x1 x2
                obtain ⟨A13, n13, e13, rfl⟩ := own_slice HS13.out.ps.b
                obtain ⟨g2, cap2, he2, hgb2, hglt2, hncap2, hcapm2, -, -, c2b, hfz2, hset2, -⟩ := HS13.out.ps.top
                simp only [Value.slice.injEq, Option.some.injEq, Addr.mk.injEq, and_true, true_and] at he2
                obtain ⟨rfl, -, rfl⟩ := he2
                have HF := Lib.hid (HS13.out.setTail hset2 hgb2)
                clear hset2 hncap2 hcapm2 hgb2
                have HEN := Lib.hid (HEND.out _ _ _ _ _ HF.out.ps HF.out.be (by rw [printC_tail, if_pos rfl]) (by rw [printC_tail, if_pos rfl]) (by have := HF.out.len; omega) (by have := HF.out.dep; omega))
                go_wp2
                go_roundw
                case rel => exact HEN.out
                case measure => have := HK.out; simp [intOf]; omega
              · have h7b : (ck == 7) = false := by simpa using h7
                by_cases h6 : ck = 6
                · subst h6
                  go_wp2_with (at_builtin; refine wpList_append_own_at _ rfl _ _ 91 rfl w.heap.size 5 i0 (.int .u8 0) 1 1 Tryz.underlying91 hi hz0 hz1 hz2 rfl (by decide) _ _ _ rfl (World.ownsRow.alloc HB0.out.ps.b _) ⟨_, 0, none⟩ 1 1 (Lib.byteCells [93]) rfl rfl ?a14 (byteCells_oneCell _) ?b14 ?c14 ?d14 ?_)
                  case a14 => first | exact new_list _ (Lib.byteCells [93]) _ _ (by first | rfl | simp) | exact fun j u h => h
                  case b14 => have := HB0.out.len; unfold maxLen; omega
                  case c14 => have := HB0.out.len; omega
                  case d14 => have := HB0.out.be.size; first | omega | (simp; omega)
                  intro bv14 w14 hown hgrow _ hlies
                  have HS14 := Lib.hid (HB0.out.putByte 93 hown (by simp) (by simp [Lib.byteCells]) hgrow)
                  clear hown hgrow hlies
                  obtain ⟨x0, x1, x2⟩ := HS14.out.box.cells
                  simp only at x0 x1 x2
                  obtain ⟨A14, n14, e14, rfl⟩ := own_slice HS14.out.ps.b
                  obtain ⟨g2, cap2, he2, -, -, -, -, -, -, -, -, -, hpop2⟩ := HS14.out.ps.top
                  simp only [Value.slice.injEq, Option.some.injEq, Addr.mk.injEq, and_true, true_and] at he2
                  obtain ⟨rfl, -, rfl⟩ := he2
                  have HQ := Lib.hid (HS14.out.popOne hpop2)
                  clear hpop2
                  go_wp2_with fail
                  refine (closed_calls w.heap.size _ _ _ _ _ HQ.out.ps HQ.out.be.size (by have := HQ.out.len; have := HQ.out.dep; have := HK.out; omega)).mono ?_
                  rintro e wc ⟨bvc, svc, rfl, hpsc, hbec⟩
                  have hcl := closed_len r
                  have HEN := Lib.hid (HEND.out _ _ _ _ _ hpsc (HQ.out.be.trans hbec) (by rw [printC_tail, if_neg h7, if_pos rfl]; try simp) (by rw [printC_tail, if_neg h7, if_pos rfl]) (by have := HQ.out.len; have := HQ.out.dep; have := HK.out; rw [List.length_append]; omega) (by have := HQ.out.dep; omega))
                  obtain ⟨Ac, nc, ec, rfl⟩ := own_slice hpsc.b
                  obtain ⟨As, ns, es, rfl⟩ := own_slice hpsc.s
                  clear hpsc hbec hcl
                  go_wp2
                  go_roundw
                  case rel => exact HEN.out
                  case measure => have := HK.out; simp [intOf]; omega
                · have h6b : (ck == 6) = false := by simpa using h6
                  go_wp2_with (at_builtin; refine wpList_append_own_at _ rfl _ _ 91 rfl w.heap.size 5 i0 (.int .u8 0) 1 1 Tryz.underlying91 hi hz0 hz1 hz2 rfl (by decide) _ _ _ rfl (World.ownsRow.alloc HB0.out.ps.b _) ⟨_, 0, none⟩ 1 1 (Lib.byteCells [124]) rfl rfl ?a15 (byteCells_oneCell _) ?b15 ?c15 ?d15 ?_)
                  case a15 => first | exact new_list _ (Lib.byteCells [124]) _ _ (by first | rfl | simp) | exact fun j u h => h
                  case b15 => have := HB0.out.len; unfold maxLen; omega
                  case c15 => have := HB0.out.len; omega
                  case d15 => have := HB0.out.be.size; first | omega | (simp; omega)
                  intro bv15 w15 hown hgrow _ hlies
                  have HS15 := Lib.hid (HB0.out.putByte 124 hown (by simp) (by simp [Lib.byteCells]) hgrow)
                  clear hown hgrow hlies
                  obtain ⟨x0, x1, x2⟩ := HS15.out.box.cells
                  simp only at x0 x1 x2
                  obtain ⟨A15, n15, e15, rfl⟩ := own_slice HS15.out.ps.b
                  by_cases h5 : ck = 5
                  · subst h5
                    by_cases hn : 0 < cn
                    · have hnd : decide ((0 : Int) < cn) = true := by simpa using hn
                      have HNP : Hid (0 < cn) := Lib.hid hn
                      go_wp2_with (at_builtin; refine wpList_append_own_at _ rfl _ _ 91 rfl w.heap.size 5 i0 (.int .u8 0) 1 1 Tryz.underlying91 hi hz0 hz1 hz2 rfl (by decide) _ _ _ rfl (World.ownsRow.alloc HS15.out.ps.b _) ⟨_, 0, none⟩ 1 1 (Lib.byteCells [123]) rfl rfl ?a16 (byteCells_oneCell _) ?b16 ?c16 ?d16 ?_)
                      case a16 => first | exact new_list _ (Lib.byteCells [123]) _ _ (by first | rfl | simp) | exact fun j u h => h
                      case b16 => have := HS15.out.len; unfold maxLen; omega
                      case c16 => have := HS15.out.len; omega
                      case d16 => have := HS15.out.be.size; first | omega | (simp; omega)
                      intro bv16 w16 hown hgrow _ hlies
                      have HS16 := Lib.hid (HS15.out.putByte 123 hown (by simp) (by simp [Lib.byteCells]) hgrow)
                      clear hown hgrow hlies
                      obtain ⟨x0, x1, x2⟩ := HS16.out.box.cells
                      simp only at x0 x1 x2
                      obtain ⟨A16, n16, e16, rfl⟩ := own_slice HS16.out.ps.b
                      go_wp2_with (at_builtin; refine wpList_append_own_at _ rfl _ _ 105 rfl w.heap.size 107 i1 (.agg #[.int .i64 0, .bool false, .bool false]) 3 16 Tryz.underlying105 hi1 hy0 hy1 hy2 rfl (by decide) _ _ _ rfl (World.ownsRow.alloc HS16.out.ps.s _) ⟨_, 0, none⟩ 1 1 (ov ⟨cn, false, false⟩) rfl rfl ?a17 (ov_oneCell _) ?b17 ?c17 ?d17 ?_)
                      case a17 => first | exact new_list _ (ov ⟨cn, false, false⟩) _ _ (by first | rfl | simp) | exact fun j u h => h
                      case b17 => have := HS16.out.dep; have := HK.out; unfold maxLen; omega
                      case c17 => have := HS16.out.dep; have := HK.out; omega
                      case d17 => have := HS16.out.be.size; first | omega | (simp; omega)
                      intro sv17 w17 hown hgrow _ hlies
                      have HF := Lib.hid (HS16.out.pushOne ⟨cn, false, false⟩ (by have h := HCL.out.2.2.2.2.2.2.1 (by first | rfl | trivial); simpa using h) hown (by simp) (by simp [ovs_append]) hgrow (by simpa using hlies))
                      clear hown hgrow hlies
                      obtain ⟨A17, n17, e17, rfl⟩ := own_slice HF.out.ps.s
                      have HEN := Lib.hid (HEND.out _ _ _ _ _ HF.out.ps HF.out.be (by rw [printC_tail, if_neg h7, if_neg h6, if_pos ⟨rfl, HNP.out⟩]; try simp) (by rw [printC_tail, if_neg h7, if_neg h6, if_pos ⟨rfl, HNP.out⟩]) (by have := HF.out.len; omega) (by have := HF.out.dep; omega))
                      go_wp2
                      go_roundw
                      case rel => exact HEN.out
                      case measure => have := HK.out; simp [intOf]; omega
                    · have hnd : decide ((0 : Int) < cn) = false := by simpa using hn
                      have HNC : Hid (¬ 0 < cn) := Lib.hid hn
                      clear hn
                      go_wp2_with fail
                      refine (leaf_calls ⟨5, cn, cx⟩ _ HCE.out HCF.out h7 (HT.out.below HS15.out.be)).mono ?_
                      rintro e wl ⟨rfl, hbl⟩
                      have HL18 := Lib.hid (HS15.out.later hbl)
                      clear hbl
                      have hll := leaf_len HCE.out HCF.out h7
                      have hlz : (Txt.bytes (leaf ⟨5, cn, cx⟩)).size = (leaf ⟨5, cn, cx⟩).length := bytes_size _
                      have HLZ := Lib.hid hlz; clear hlz
                      go_wp2_with (at_builtin; refine Lib.wpList_append_own_string _ rfl _ _ 91 9 rfl w.heap.size 5 i0 Tryz.underlying91 Tryz.underlying9 hi hz0 hz1 hz2 _ _ _ rfl HL18.out.ps.b _ rfl ?b18 ?c18 ?d18 ?_)
                      case b18 => have := HL18.out.len; have := HLZ.out; unfold maxLen; omega
                      case c18 => have := HL18.out.len; have := HLZ.out; omega
                      case d18 => exact HL18.out.be.size
                      intro bv18 w18 hown hgrow _
                      have HS18 := Lib.hid (HL18.out.putText (leaf ⟨5, cn, cx⟩) hll hown (by simp) (by simp [Lib.byteCells]) hgrow)
                      clear hown hgrow hll
                      obtain ⟨A18, n18, e18, rfl⟩ := own_slice HS18.out.ps.b
                      go_wp2_with fail
                      refine (closed_calls w.heap.size _ _ _ _ _ HS18.out.ps HS18.out.be.size (by have := HS18.out.len; have := HS18.out.dep; have := HK.out; omega)).mono ?_
                      rintro e wc ⟨bvc, svc, rfl, hpsc, hbec⟩
                      have hcl := closed_len (⟨ol, oli, true⟩ :: r)
                      have HEN := Lib.hid (HEND.out _ _ _ _ _ hpsc (HS18.out.be.trans hbec) (by rw [printC_tail, if_neg h7, if_neg h6, if_neg (fun x => by have h1 := HNC.out; have h2 : cn > 0 := x.2; omega)]; try simp) (by rw [printC_tail, if_neg h7, if_neg h6, if_neg (fun x => by have h1 := HNC.out; have h2 : cn > 0 := x.2; omega)]) (by have := HS18.out.len; have := HS18.out.dep; have := HK.out; rw [List.length_append]; omega) (by have := HS18.out.dep; omega))
                      obtain ⟨Ac, nc, ec, rfl⟩ := own_slice hpsc.b
                      obtain ⟨As, ns, es, rfl⟩ := own_slice hpsc.s
                      clear hpsc hbec hcl
                      go_wp2
                      go_roundw
                      case rel => exact HEN.out
                      case measure => have := HK.out; simp [intOf]; omega
                  · have h5b : (ck == 5) = false := by simpa using h5
                    have HN5 : Hid (¬ (ck = 5 ∧ cn > 0)) := Lib.hid fun x => h5 x.1
                    go_wp2_with fail
                    refine (leaf_calls ⟨ck, cn, cx⟩ _ HCE.out HCF.out h7 (HT.out.below HS15.out.be)).mono ?_
                    rintro e wl ⟨rfl, hbl⟩
                    have HL19 := Lib.hid (HS15.out.later hbl)
                    clear hbl
                    have hll := leaf_len HCE.out HCF.out h7
                    have hlz : (Txt.bytes (leaf ⟨ck, cn, cx⟩)).size = (leaf ⟨ck, cn, cx⟩).length := bytes_size _
                    have HLZ := Lib.hid hlz; clear hlz
                    go_wp2_with (at_builtin; refine Lib.wpList_append_own_string _ rfl _ _ 91 9 rfl w.heap.size 5 i0 Tryz.underlying91 Tryz.underlying9 hi hz0 hz1 hz2 _ _ _ rfl HL19.out.ps.b _ rfl ?b19 ?c19 ?d19 ?_)
                    case b19 => have := HL19.out.len; have := HLZ.out; unfold maxLen; omega
                    case c19 => have := HL19.out.len; have := HLZ.out; omega
                    case d19 => exact HL19.out.be.size
                    intro bv19 w19 hown hgrow _
                    have HS19 := Lib.hid (HL19.out.putText (leaf ⟨ck, cn, cx⟩) hll hown (by simp) (by simp [Lib.byteCells]) hgrow)
                    clear hown hgrow hll
                    obtain ⟨A19, n19, e19, rfl⟩ := own_slice HS19.out.ps.b
                    go_wp2_with fail
                    refine (closed_calls w.heap.size _ _ _ _ _ HS19.out.ps HS19.out.be.size (by have := HS19.out.len; have := HS19.out.dep; have := HK.out; omega)).mono ?_
                    rintro e wc ⟨bvc, svc, rfl, hpsc, hbec⟩
                    have hcl := closed_len (⟨ol, oli, true⟩ :: r)
                    have HEN := Lib.hid (HEND.out _ _ _ _ _ hpsc (HS19.out.be.trans hbec) (by rw [printC_tail, if_neg h7, if_neg h6, if_neg HN5.out]; try simp) (by rw [printC_tail, if_neg h7, if_neg h6, if_neg HN5.out]) (by have := HS19.out.len; have := HS19.out.dep; have := HK.out; rw [List.length_append]; omega) (by have := HS19.out.dep; omega))
                    obtain ⟨Ac, nc, ec, rfl⟩ := own_slice hpsc.b
                    obtain ⟨As, ns, es, rfl⟩ := own_slice hpsc.s
                    clear hpsc hbec hcl
                    go_wp2
                    go_roundw
                    case rel => exact HEN.out
                    case measure => have := HK.out; simp [intOf]; omega
          -- MARK END
      · have hR' := HP.out.eq
        rw [List.drop_of_length_le (by omega), printF] at hR'
        by_cases hbig : 65536 < bs.length
        · rw [if_pos hbig] at hR'
          subst hR'
          have hbe := HP.out.be
          clear HP HR
          have h1 : decide ((65536 : Int) < (bs.length : Int)) = true := by simp; omega
          go_wp2_with fail
          go_ret2
          exact ⟨rfl, hbe⟩
        · rw [if_neg hbig] at hR'
          subst hR'
          have h1 : decide ((65536 : Int) < (bs.length : Int)) = false := by simp; omega
          have hcv := conv_own HP.out.ps.b
          have HBE := Lib.hid HP.out.be
          clear HP HR hbig
          go_wp2_with fail
          go_ret2
          exact ⟨rfl, HBE.out⟩
  · have hpr : print t = ([], (right t).1) := by unfold print; rw [if_pos hr]
    rw [hpr]
    have hne : ((right t).1 != 0) = true := by simpa using hr
    clear hpr hr
    generalize right t = rt at *
    obtain ⟨v, kk⟩ := rt
    simp only at *
    have HRR := Lib.hid hrr; clear hrr
    go_enter Tryz.func49, Tryz.ntmps49
    go_wp2_with fail
    refine (HRR.out).mono ?_
    rintro e w1 ⟨rfl, hb1⟩
    go_wp2
    go_ret2
    exact ⟨rfl, hb1⟩
end Go.Proofs.YtejpdfenejbjdaaGreatDoor
