/- Walks: the reference: where a term ends; what a term holds. -/
import Derived.Test.YtejpdfenejbjdaaGreatDoorRfF
import Derived.Test.YtejpdfenejbjdaaGreatDoorRefRight
import Derived.Test.YtejpdfenejbjdaaGreatDoorPModel
import Derived.Test.YtejpdfenejbjdaaGreatDoorPrint
namespace Go.Proofs.YtejpdfenejbjdaaGreatDoor
open Go.RowKit Txt
set_option linter.unusedVariables false
set_option linter.unusedSimpArgs false

/-- How many cells 'o' open terms take. -/
def endF : List Cl → Nat → Option Nat
  | [], _ => none
  | c :: l, o => if o - 1 + Txt.kids c = 0 then some 1 else (endF l (o - 1 + Txt.kids c)).map (· + 1)
theorem endF_fo (f : Fo) : ∀ (m : Nat) (rest : List Cl), f.ok → 1 ≤ f.len + m → endF (f.flat ++ rest) (f.len + m) = if m = 0 then some f.flat.length else (endF rest m).map (· + f.flat.length) := by
  induction f with
  | nil =>
    intro m rest _ hm
    have : m ≠ 0 := by simp only [Fo.len] at hm; omega
    rw [if_neg this]
    simp [Fo.flat, Fo.len]
  | node c k r ihk ihr =>
    intro m rest hok hm
    obtain ⟨hc, hkl, hko, hro⟩ := hok
    have e : (Fo.node c k r).flat ++ rest = c :: (k.flat ++ (r.flat ++ rest)) := by simp [Fo.flat]
    rw [e]
    have e2 : (Fo.node c k r).len + m - 1 + Txt.kids c = k.len + (r.len + m) := by simp only [Fo.len, hkl]; omega
    rw [endF, e2]
    by_cases h0 : k.len + (r.len + m) = 0
    · rw [if_pos h0]
      have hm0 : m = 0 := by omega
      have hk : k = .nil := by cases k with | nil => rfl | node _ _ _ => simp [Fo.len] at h0
      have hr : r = .nil := by cases r with | nil => rfl | node _ _ _ => simp [Fo.len] at h0
      subst hk hr
      rw [if_pos hm0]; rfl
    · rw [if_neg h0, ihk _ _ hko (by omega)]
      by_cases h1 : r.len + m = 0
      · rw [if_pos h1]
        have hm0 : m = 0 := by omega
        have hr : r = .nil := by cases r with | nil => rfl | node _ _ _ => simp [Fo.len] at h1
        subst hr
        rw [if_pos hm0]
        simp [Fo.flat]
      · rw [if_neg h1, ihr _ _ hro (by omega)]
        by_cases hm0 : m = 0
        · rw [if_pos hm0, if_pos hm0]; simp [Fo.flat]; omega
        · rw [if_neg hm0, if_neg hm0]
          cases endF rest m with
          | none => rfl
          | some z => simp [Fo.flat]; omega
set_option maxHeartbeats 2000000 in
set_option maxRecDepth 100000 in
theorem rend_calls (x : Value) (t : List Cl) (p n : Nat) (w : World) (hx : SeesT w x t) (hc : ∀ c ∈ t, cellE c = 0) (hl : t.length ≤ 1024) (hp : p < t.length) (hn : endF (t.drop p) 1 = some n) :
    Calls Tryz.prog 172 #[x, .int .i64 (p : Int)] w fun e w' => e = .returned (.tuple #[.int .i64 ((p + n : Nat) : Int), .int .i64 0]) ∧ Below w.heap.size w w' := by
  have HX := Lib.hid hx
  have HC := Lib.hid hc; clear hc
  have HN := Lib.hid hn; clear hn
  obtain ⟨A, cap, rfl, hcap, -⟩ := hx
  have h0 : decide ((t.length : Int) ≤ (p : Int)) = false := decide_eq_false (by omega)
  have h0' : decide (t.length ≤ p) = false := decide_eq_false (by omega)
  go_enter Tryz.func172, Tryz.ntmps172
  go_wp2
  go_loopw [6, 7] (fun o i wr => ∃ k u m : Nat, p ≤ k ∧ k ≤ t.length ∧ i = .int .i64 k ∧ o = .int .i64 (u : Int) ∧ 1 ≤ u ∧ u ≤ 1 + 255 * k ∧ endF (t.drop k) u = some m ∧ k + m = p + n ∧ Below w.heap.size w wr) (fun _ i _ => t.length - (intOf i).toNat)
  case atStart => exact ⟨p, 1, n, Nat.le_refl _, by omega, rfl, rfl, Nat.le_refl _, by omega, HN.out, rfl, Below.refl _ _⟩
  case round =>
    obtain ⟨k, u, m, hpk, hk, rfl, rfl, hu1, hu2, hm, hkm, hbe⟩ := hrel
    have HB := Lib.hid hbe; clear hbe
    by_cases hlt : k < t.length
    · have hdr : t.drop k = t[k] :: t.drop (k + 1) := List.drop_eq_getElem_cons hlt
      rw [hdr, endF] at hm
      have hce := HC.out _ (List.getElem_mem hlt)
      have hkl := kids_le t[k]
      obtain ⟨ad, cap', he, hcap', hblk, c0, c1, c2⟩ := (HX.out.below HB.out).at k hlt
      simp only [Value.slice.injEq] at he
      obtain ⟨rfl, -, rfl⟩ := he
      have hkc := fun W => rkids_calls t[k] W hce
      have HM := Lib.hid hm; clear hm hdr hce
      have HKM := Lib.hid hkm; clear hkm
      have hki : (k : Int) < (t.length : Int) := by omega
      generalize t[k] = c at *
      have HKC := Lib.hid hkc; clear hkc
      go_wp2_with fail
      refine (HKC.out _).mono ?_
      rintro e w1 ⟨rfl, hb1⟩
      have HB1 := Lib.hid (HB.out.trans (hb1.mono HB.out.size)); clear hb1 c0 c1 c2
      have hm := HM.out
      clear HM
      generalize Txt.kids c = q at *
      by_cases hz : u - 1 + q = 0
      · rw [if_pos hz] at hm
        obtain rfl : 1 = m := Option.some.inj hm
        have hz1 : ((u : Int) - 1 + (q : Int) == 0) = true := by rw [beq_iff_eq]; omega
        have hfin : (k : Int) + 1 = ((p + n : Nat) : Int) := by have := HKM.out; omega
        have HF := Lib.hid hfin; clear hfin hz hm
        go_wp2
        go_ret2
        exact ⟨by rw [← HF.out]; rfl, HB1.out⟩
      · rw [if_neg hz] at hm
        obtain ⟨m', hm', hmm⟩ := Option.map_eq_some_iff.1 hm
        have hz1 : ((u : Int) - 1 + (q : Int) == 0) = false := by rw [beq_eq_false_iff_ne]; omega
        have hou : (u : Int) - 1 + (q : Int) = ((u - 1 + q : Nat) : Int) := by omega
        have HM := Lib.hid hm'
        have HMM := Lib.hid hmm
        have HOU := Lib.hid hou; clear hm hm' hmm hou
        go_wp2
        go_roundw
        case rel => exact ⟨k + 1, u - 1 + q, m', by omega, by omega, by go_num, by rw [HOU.out], by omega, by omega, HM.out, by have := HMM.out; have := HKM.out; omega, HB1.out⟩
        case measure => simp [intOf]; omega
    · rw [List.drop_of_length_le (by omega)] at hm
      cases hm
end Go.Proofs.YtejpdfenejbjdaaGreatDoor

namespace Go.Proofs.YtejpdfenejbjdaaGreatDoor
open Go.RowKit Txt
set_option linter.unusedVariables false
set_option linter.unusedSimpArgs false

/-- A slice of slices reads as a list of lists of cells, where 'S' holds. -/
def SeesTL (S : World → Prop) (w : World) (x : Value) (l : List (List Cl)) : Prop :=
  ∃ A cap, x = .slice A l.length cap ∧ l.length ≤ cap ∧ (l ≠ [] → ∃ g, A = some ⟨g, 0, none⟩ ∧ g < w.heap.size ∧ (∃ hh cc, w.heap[g]? = some (.cells hh 22 cc)) ∧ ∀ (j : Nat) (h : j < l.length), ∃ v, w.cell? ⟨g, j, none⟩ = some v ∧ ∀ W, S W → SeesT W v l[j])
theorem SeesTL.at {S : World → Prop} {w : World} {x : Value} {l : List (List Cl)} (h : SeesTL S w x l) (j : Nat) (hj : j < l.length) :
    ∃ g cap v, x = .slice (some ⟨g, 0, none⟩) l.length cap ∧ l.length ≤ cap ∧ g < w.heap.size ∧ w.cell? ⟨g, j, none⟩ = some v ∧ ∀ W, S W → SeesT W v l[j] := by
  obtain ⟨A, cap, rfl, hc, hA⟩ := h
  obtain ⟨g, rfl, hl, -, hv⟩ := hA (by intro e; subst e; simp at hj)
  obtain ⟨v, h1, h2⟩ := hv j hj
  exact ⟨g, cap, v, rfl, hc, hl, h1, h2⟩
theorem SeesTL.below {S : World → Prop} {w w' : World} {x : Value} {l : List (List Cl)} (h : SeesTL S w x l) (hb : Below w.heap.size w w') : SeesTL S w' x l := by
  obtain ⟨A, cap, rfl, hc, hA⟩ := h
  refine ⟨A, cap, rfl, hc, fun hne => ?_⟩
  obtain ⟨g, rfl, hl, ⟨hh, cc, ht⟩, hv⟩ := hA hne
  refine ⟨g, rfl, Nat.lt_of_lt_of_le hl hb.size, ⟨hh, cc, (hb.block g hl).trans ht⟩, fun j hj => ?_⟩
  obtain ⟨v, h1, h2⟩ := hv j hj
  exact ⟨v, (hb.cell (p := ⟨g, j, none⟩) hl).trans h1, h2⟩
/-- Behind an append to a text. -/
theorem SeesTL.grown {S : World → Prop} {w w' : World} {x v : Value} {l : List (List Cl)} {base : Nat} {t : List UInt8} (h : SeesTL S w x l) (ho : OwnB base w v t) (hg : w.grownBy w' v.ownBlock) : SeesTL S w' x l := by
  obtain ⟨A, cap, rfl, hc, hA⟩ := h
  refine ⟨A, cap, rfl, hc, fun hne => ?_⟩
  obtain ⟨g, rfl, hl, ⟨hh, cc, ht⟩, hv⟩ := hA hne
  have hn : v.ownBlock ≠ some g := by
    obtain ⟨-, ⟨rfl, -⟩ | ⟨g', cap', cur, rfl, -, hg', -⟩⟩ := ho
    · simp [Value.ownBlock]
    · simp only [Value.ownBlock]
      intro e
      obtain rfl : g' = g := Option.some.inj e
      rw [hg'] at ht
      simp at ht
  have hk : w'.heap[g]? = w.heap[g]? := hg.block g hl (fun e => hn e.symm)
  refine ⟨g, rfl, Nat.lt_of_lt_of_le hl hg.size, ⟨hh, cc, hk.trans ht⟩, fun j hj => ?_⟩
  obtain ⟨u, h1, h2⟩ := hv j hj
  exact ⟨u, (World.cell?_of_block (w := w) hk).trans h1, h2⟩
theorem SeesTL.alloc {S : World → Prop} {w : World} {x : Value} {l : List (List Cl)} (h : SeesTL S w x l) (o : Obj) : SeesTL S (w.alloc o) x l := h.below ((Below.refl _ _).alloc (Nat.le_refl _) o)
def Txt.Fo.items : Fo → List (List Cl)
  | .nil => []
  | .node c k r => (c :: k.flat) :: r.items
theorem items_len (f : Fo) : f.items.length = f.len := by
  induction f with
  | nil => rfl
  | node c k r _ ih => simp [Txt.Fo.items, Fo.len, ih]
/-- A part of a term, as a slice. -/
theorem sees_part {w : World} {t : List Cl} {ad : Addr} {cap p n : Nat} (h : SeesT w (.slice (some ad) t.length cap) t) (hp : p + n ≤ t.length) : SeesT w (.slice (some (ad.add (p * 3))) n (cap - p)) ((t.drop p).take n) := by
  obtain ⟨A, cap', he, hc, hA⟩ := h
  simp only [Value.slice.injEq] at he
  obtain ⟨rfl, -, rfl⟩ := he
  have hl : ((t.drop p).take n).length = n := by simp; omega
  refine ⟨_, _, by rw [hl], by rw [hl]; omega, fun hne => ⟨_, rfl, fun j u hj => ?_⟩⟩
  have hnt : t ≠ [] := by rintro rfl; simp at hne
  obtain ⟨ad', he, hcell⟩ := hA hnt
  obtain rfl : ad = ad' := Option.some.inj he
  have hjl : j < n * 3 := by
    have := (List.getElem?_eq_some_iff.1 hj).1
    rw [cvs_length, hl] at this; exact this
  have e1 : (cvs t)[p * 3 + j]? = some u := by
    have h1 := cvs_at ((t.drop p).take n) (j / 3) (j % 3) (by rw [hl]; omega) (by omega)
    have h2 := cvs_at t (p + j / 3) (j % 3) (by omega) (by omega)
    have e3 : j / 3 * 3 + j % 3 = j := by omega
    have e4 : (p + j / 3) * 3 + j % 3 = p * 3 + j := by omega
    rw [e3, hj] at h1
    rw [e4] at h2
    rw [h2, h1]
    congr 2
    simp
  have := hcell _ _ e1
  rw [← this]
  unfold Addr.add
  by_cases hp0 : p = 0
  · subst hp0; simp
  · rw [if_neg (c := p * 3 = 0) (by omega), if_neg (c := p * 3 + j = 0) (by omega)]
    split
    · subst_vars; simp
    · simp [Nat.add_assoc]
theorem own_sliceL {w : World} {base e size n : Nat} {v : Value} {xs : List Value} (h : w.ownsRow base e size v n xs) : ∃ A m c, v = .slice A m c := by
  obtain ⟨-, ⟨rfl, -⟩ | ⟨g, cap, cur, rfl, -⟩⟩ := h <;> exact ⟨_, _, _, rfl⟩
theorem below_grown {B : Nat} {w w' : World} {row : Option Nat} (hg : w.grownBy w' row) (hr : ∀ g, row = some g → B ≤ g) (hB : B ≤ w.heap.size) : Below B w w' :=
  ⟨hg.os, hg.tape, hg.output, hg.size, fun k hk => hg.block k (by omega) (fun e => by have := hr k e.symm; omega)⟩
theorem info_cells : (Tryz.prog.info? 22).map (fun i => (i.zero, i.size, i.bytes)) = some (some (.slice none 0 0), 1, 24) := by kernel_rfl
/-- What has been taken off, what is left. -/
structure PT (w : World) (x : Value) (t : List Cl) (k : Fo) (v : Value) (dn : List (List Cl)) (vals : List Value) (r : Fo) (p : Nat) (wr : World) : Prop where
  items : k.items = dn ++ r.items
  ok : r.ok
  drop : t.drop p = r.flat
  ple : p ≤ t.length
  own : wr.ownsRow w.heap.size 22 1 v dn.length vals
  sees : ∀ (j : Nat) (hj : j < dn.length), ∃ u, vals[j]? = some u ∧ ∀ W, SeesT W x t → SeesT W u dn[j]
  be : Below w.heap.size w wr
theorem own_keepL {base : Nat} {w w' : World} {v : Value} {n : Nat} {xs : List Value} (h : w.ownsRow base 22 1 v n xs) (hb : Below w.heap.size w w') : w'.ownsRow base 22 1 v n xs := by
  refine World.ownsRow.kept h (row := none) ⟨hb.os, hb.tape, hb.output, hb.size, fun k hk _ => hb.block k hk⟩ ?_
  cases v.ownBlock with
  | none => exact .inl rfl
  | some g => exact .inr (by simp)
theorem PT.len {w : World} {x : Value} {t : List Cl} {k : Fo} {v : Value} {dn : List (List Cl)} {vals : List Value} {r : Fo} {p : Nat} {wr : World} (h : PT w x t k v dn vals r p wr) : vals.length = dn.length := by
  have := h.own.1; omega
theorem parts_done {w w1 : World} {x : Value} {t : List Cl} {k : Fo} {v : Value} {dn : List (List Cl)} {vals : List Value} {p : Nat} {wr : World} (h : PT w x t k v dn vals .nil p wr) (ho : w1.ownsRow w.heap.size 22 1 v dn.length vals) (hb : Below w.heap.size w w1) : SeesTL (fun W => SeesT W x t) w1 v k.items := by
  have hi : k.items = dn := by rw [h.items]; simp [Txt.Fo.items]
  rw [hi]
  obtain ⟨-, ⟨rfl, h0⟩ | ⟨g, cap, cur, rfl, -, hg, hcc, -, hs, ht⟩⟩ := id ho
  · have : dn = [] := List.length_eq_zero_iff.1 h0
    subst this
    exact ⟨none, 0, rfl, Nat.le_refl _, fun h => absurd rfl h⟩
  · refine ⟨_, cap, rfl, hcc, fun _ => ⟨g, rfl, (Array.getElem?_eq_some_iff.1 hg).1, ⟨_, _, hg⟩, fun j hj => ?_⟩⟩
    obtain ⟨u, h1, h2⟩ := h.sees j hj
    refine ⟨u, ?_, h2⟩
    have := World.ownsRow.cellAt ho j (by omega)
    rw [this, h1]
theorem PT.push {w w' : World} {x : Value} {t : List Cl} {k : Fo} {v v' : Value} {dn : List (List Cl)} {vals : List Value} {a : Cl} {ka r' : Fo} {p n : Nat} {wr : World} {u : Value} (h : PT w x t k v dn vals (.node a ka r') p wr)
    (hd : t.drop (p + n) = r'.flat) (hp : p + n ≤ t.length) (hu : ∀ W, SeesT W x t → SeesT W u (a :: ka.flat)) (hb : Below w.heap.size w w') (ho : w'.ownsRow w.heap.size 22 1 v' (dn.length + 1) (vals ++ [u])) :
    PT w x t k v' (dn ++ [a :: ka.flat]) (vals ++ [u]) r' (p + n) w' := by
  refine ⟨by rw [h.items]; simp [Txt.Fo.items], h.ok.2.2.2, hd, hp, by simpa using ho, ?_, hb⟩
  intro j hj
  by_cases hjl : j < dn.length
  · obtain ⟨y, h1, h2⟩ := h.sees j hjl
    refine ⟨y, by rw [List.getElem?_append_left (by rw [h.len]; exact hjl)]; exact h1, ?_⟩
    rw [List.getElem_append_left hjl]; exact h2
  · have : j = dn.length := by simp at hj; omega
    subst this
    refine ⟨u, by rw [List.getElem?_append_right (by rw [h.len]; exact Nat.le_refl _), h.len]; simp, ?_⟩
    simpa using hu
theorem part_end {w : World} {x : Value} {t : List Cl} {k : Fo} {v : Value} {dn : List (List Cl)} {vals : List Value} {a : Cl} {ka r' : Fo} {p : Nat} {wr : World} (h : PT w x t k v dn vals (.node a ka r') p wr) :
    endF (t.drop p) 1 = some (1 + ka.flat.length) ∧ p + (1 + ka.flat.length) ≤ t.length ∧ (t.drop p).take (1 + ka.flat.length) = a :: ka.flat ∧ t.drop (p + (1 + ka.flat.length)) = r'.flat := by
  obtain ⟨h1, h2, h3, h4⟩ := h.ok
  have hd := h.drop
  have e : t.drop p = (Fo.node a ka .nil).flat ++ r'.flat := by rw [hd]; simp [Fo.flat]
  have hf := endF_fo (.node a ka .nil) 0 r'.flat ⟨h1, h2, h3, trivial⟩ (by simp [Fo.len])
  have hfl : (Fo.node a ka .nil).flat.length = 1 + ka.flat.length := by simp [Fo.flat]; omega
  have hlen := congrArg List.length e
  rw [List.length_drop, List.length_append, hfl] at hlen
  refine ⟨?_, by have := h.ple; omega, ?_, ?_⟩
  · rw [e]
    rw [if_pos rfl, hfl] at hf
    exact hf
  · rw [e, List.take_append_of_le_length (by omega), List.take_of_length_le (by omega)]; simp [Fo.flat]
  · rw [← List.drop_drop, e, List.drop_append_of_le_length (by omega), List.drop_of_length_le (by omega)]; rfl
set_option maxHeartbeats 4000000 in
set_option maxRecDepth 100000 in
theorem rparts_calls (x : Value) (c : Cl) (k : Fo) (w : World) (hx : SeesT w x (c :: k.flat)) (hc : ∀ d ∈ c :: k.flat, cellE d = 0) (hk : k.len = Txt.kids c) (hok : k.ok) (hl : (c :: k.flat).length ≤ 1024) :
    Calls Tryz.prog 117 #[x] w fun e w' => ∃ v, e = .returned v ∧ SeesTL (fun W => SeesT W x (c :: k.flat)) w' v k.items ∧ Below w.heap.size w w' := by
  have HX := Lib.hid hx
  have HC := Lib.hid hc
  obtain ⟨ad, cap, rfl, hcap, hblk, c0, c1, c2⟩ := hx.at 0 (by simp)
  have e0 : ad.add (0 * 3) = ad := by simp [Addr.add]
  rw [e0] at c0 c1 c2
  simp only [List.getElem_cons_zero] at c0 c1 c2
  have hkc := fun W => rkids_calls c W (hc c (by simp))
  have HKC := Lib.hid hkc; clear hkc hc hx e0
  obtain ⟨t, ht⟩ : ∃ t, c :: k.flat = t := ⟨_, rfl⟩
  have hpt : PT w (.slice (some ad) (c :: k.flat).length cap) t k (.slice none 0 0) [] [] k 1 w := ⟨rfl, hok, by rw [← ht]; rfl, by rw [← ht]; simp, World.ownsRow_nil _ _ _ _, fun j hj => by simp at hj, Below.refl _ _⟩
  have h0 : ((t.length : Int) == 0) = false := by rw [beq_eq_false_iff_ne, ← ht]; simp; omega
  have ht0 : 0 < t.length := by rw [← ht]; simp
  rw [ht] at HX HC hl hcap hpt ⊢
  have HPT := Lib.hid hpt; clear hpt ht
  have HK := Lib.hid hk; clear hk hok
  go_enter Tryz.func117, Tryz.ntmps117
  go_wp2_with fail
  obtain ⟨i0, hi, hz0, hz1, hz2⟩ := info_parts info_cells
  go_loopw [3, 4, 5] (fun v a i wr => ∃ (p : Nat) (dn : List (List Cl)) (vals : List Value) (r : Fo), a = .int .i64 p ∧ i = .int .i64 (dn.length : Int) ∧ PT w (.slice (some ad) t.length cap) t k v dn vals r p wr) (fun _ _ i _ => k.len - (intOf i).toNat)
  case atStart => exact ⟨1, [], [], k, rfl, rfl, HPT.out⟩
  case round =>
    obtain ⟨p, dn, vals, r, rfl, rfl, hpt⟩ := hrel
    have hkl : k.len = dn.length + r.len := by
      have := congrArg List.length hpt.items
      rw [items_len, List.length_append, items_len] at this; exact this
    have hle : k.len ≤ 255 := by rw [HK.out]; exact kids_le c
    have hbe := hpt.be
    have c0' := (hbe.cell (p := ad) hblk).trans c0
    have c1' := (hbe.cell (p := ⟨ad.block, ad.off + 1, none⟩) hblk).trans c1
    have c2' := (hbe.cell (p := ⟨ad.block, ad.off + 2, none⟩) hblk).trans c2
    have hlp := hpt.ple
    have HP := Lib.hid hpt; clear hpt hbe
    go_wp2_with fail
    refine (HKC.out _).mono ?_
    rintro e w1 ⟨rfl, hb1⟩
    rw [← HK.out]
    have HB1 := Lib.hid (HP.out.be.trans (hb1.mono HP.out.be.size))
    have HO1 := Lib.hid (own_keepL HP.out.own hb1)
    clear hb1 c0' c1' c2'
    cases r with
    | nil =>
      have hkd : k.len = dn.length := by simpa [Fo.len] using hkl
      have hn : decide ((dn.length : Int) < (k.len : Int)) = false := decide_eq_false (by omega)
      have hn' : decide (dn.length < k.len) = false := decide_eq_false (by omega)
      have hfin := parts_done HP.out HO1.out HB1.out
      have HF := Lib.hid hfin; clear hfin hkl
      go_wp2
      go_ret
      exact ⟨_, rfl, HF.out, HB1.out⟩
    | node a ka r' =>
      have hln : dn.length < k.len := by rw [hkl]; simp only [Fo.len]; omega
      have hlt : decide ((dn.length : Int) < (k.len : Int)) = true := decide_eq_true (by omega)
      have hlt' : decide (dn.length < k.len) = true := decide_eq_true hln
      have hend := part_end HP.out
      obtain ⟨hp1, hp2, hp3, hp4⟩ := hend
      generalize hn : 1 + ka.flat.length = n at *
      have HN := Lib.hid hn; clear hn
      have hec := fun W hW => rend_calls (.slice (some ad) t.length cap) t p n W hW HC.out hl (by have := HN.out; omega) hp1
      have HEC := Lib.hid hec; clear hec hp1 hkl
      go_wp2_with fail
      refine (HEC.out _ (HX.out.below HB1.out)).mono ?_
      rintro e w2 ⟨rfl, hb2⟩
      have HB2 := Lib.hid (HB1.out.trans (hb2.mono HB1.out.size))
      have HO2 := Lib.hid (own_keepL HO1.out hb2); clear hb2
      have s1 : (p : Int) ≤ ((p + n : Nat) : Int) := by omega
      have s2 : ((p + n : Nat) : Int) ≤ (cap : Int) := by omega
      have hn1 : 1 ≤ n := by have := HN.out; omega
      have s3 : ¬ p = cap := by omega
      have hdl : dn.length ≤ 254 := by omega
      have hap : ∀ W, SeesT W (.slice (some ad) t.length cap) t → SeesT W (.slice (some (ad.add (p * 3))) n (cap - p)) (a :: ka.flat) := fun W hW => by
        rw [← hp3]; exact sees_part hW hp2
      have HAP := Lib.hid hap; clear hap hp3
      obtain ⟨XA, xn, xcc, rfl⟩ := own_sliceL HO2.out
      go_wp2_with (at_builtin; refine wpList_append_own _ rfl _ _ 152 rfl w.heap.size 22 i0 (.slice none 0 0) 1 24 Tryz.underlying152 hi hz0 hz1 hz2 rfl (by decide) _ _ _ rfl (World.ownsRow.alloc HO2.out _) ⟨w2.heap.size, 0, none⟩ 1 1 [.slice (some (ad.add (p * 3))) n (cap - p)] rfl rfl ?a1 ?a2 ?a3 ?a4 ?a5 ?_)
      case a1 => exact new_list w2 [.slice (some (ad.add (p * 3))) n (cap - p)] _ _ rfl
      case a2 => intro y hy; simp at hy; subst hy; rfl
      case a3 => unfold maxLen; omega
      case a4 => omega
      case a5 => have := HB2.out.size; simp; omega
      intro v' w3 hown hgrow _
      have hsz2 := HB2.out.size
      have hb3 : Below w.heap.size w w3 := (HB2.out.alloc hsz2 _).trans (below_grown hgrow (fun g hg => (World.ownsRow.lt HO2.out g hg).1) (by simp; omega))
      have hpt' := HP.out.push hp4 hp2 HAP.out hb3 hown
      have HP' := Lib.hid hpt'
      obtain ⟨VA, vn, vcc, rfl⟩ := own_sliceL hown
      clear hpt' hown hgrow hb3 hsz2
      go_wp2_with fail
      go_roundw
      case rel => exact ⟨p + n, dn ++ [a :: ka.flat], _, r', by go_num, by simp, HP'.out⟩
      case measure => simp [intOf]; omega
end Go.Proofs.YtejpdfenejbjdaaGreatDoor

namespace Go.Proofs.YtejpdfenejbjdaaGreatDoor
open Go.RowKit Txt
set_option linter.unusedVariables false
set_option linter.unusedSimpArgs false

/-- A right term, seen. -/
structure TS (w : World) (x : Value) (c : Cl) (k : Fo) : Prop where
  sees : SeesT w x (c :: k.flat)
  cell : cellE c = 0
  len : k.len = Txt.kids c
  ok : k.ok
  size : (c :: k.flat).length ≤ 1024
  fits : ∀ d ∈ c :: k.flat, fits d
theorem TS.below {w w' : World} {x : Value} {c : Cl} {k : Fo} (h : TS w x c k) (hb : Below w.heap.size w w') : TS w' x c k :=
  ⟨h.sees.below hb, h.cell, h.len, h.ok, h.size, h.fits⟩
theorem ok_cells (f : Fo) (h : f.ok) : ∀ d ∈ f.flat, cellE d = 0 := by
  induction f with
  | nil => intro d hd; simp [Fo.flat] at hd
  | node c k r ihk ihr =>
    obtain ⟨h1, -, h2, h3⟩ := h
    intro d hd
    simp only [Fo.flat, List.mem_cons, List.mem_append] at hd
    rcases hd with rfl | hd | hd
    · exact h1
    · exact ihk h2 d hd
    · exact ihr h3 d hd
theorem TS.cells {w : World} {x : Value} {c : Cl} {k : Fo} (h : TS w x c k) : ∀ d ∈ c :: k.flat, cellE d = 0 := by
  intro d hd
  rcases List.mem_cons.1 hd with rfl | hd
  · exact h.cell
  · exact ok_cells k h.ok d hd
theorem TS.parts {w : World} {x : Value} {c : Cl} {k : Fo} (h : TS w x c k) : Calls Tryz.prog 117 #[x] w fun e w' => ∃ v, e = .returned v ∧ SeesTL (fun W => SeesT W x (c :: k.flat)) w' v k.items ∧ Below w.heap.size w w' :=
  rparts_calls x c k w h.sees h.cells h.len h.ok h.size
/-- Its first cell lies there. -/
theorem TS.at {w : World} {x : Value} {c : Cl} {k : Fo} (h : TS w x c k) : ∃ ad n cap, x = .slice (some ad) (n + 1) cap ∧ Hid (n = k.flat.length) ∧ n + 1 ≤ cap ∧ ad.block < w.heap.size ∧
    w.cell? ad = some (.int .i64 c.kind) ∧ w.cell? ⟨ad.block, ad.off + 1, none⟩ = some (.int .i64 c.n) ∧ w.cell? ⟨ad.block, ad.off + 2, none⟩ = some (.string c.text) := by
  obtain ⟨ad, cap, rfl, hcap, hblk, c0, c1, c2⟩ := h.sees.at 0 (by simp)
  have e0 : ad.add (0 * 3) = ad := by simp [Addr.add]
  rw [e0] at c0 c1 c2
  exact ⟨ad, _, cap, rfl, Lib.hid rfl, hcap, hblk, c0, c1, c2⟩
theorem two_parts {w : World} {v x : Value} {c : Cl} {k : Fo} (hs : SeesTL (fun W => SeesT W x (c :: k.flat)) w v k.items) {w0 : World} (ht : TS w0 x c k) (h7 : c.kind = 7) :
    ∃ a ka b kb g cap v0 v1, k = .node a ka (.node b kb .nil) ∧ v = .slice (some ⟨g, 0, none⟩) 2 cap ∧ 2 ≤ cap ∧ g < w.heap.size ∧ w.cell? ⟨g, 0, none⟩ = some v0 ∧ w.cell? ⟨g, 1, none⟩ = some v1 ∧ TS w0 v0 a ka ∧ TS w0 v1 b kb := by
  have hl := ht.len
  have hsees := ht.sees
  have hok := ht.ok
  have hsz := ht.size
  have hfi := ht.fits
  rw [kids_7 h7] at hl
  clear ht
  cases k with
  | nil => simp [Fo.len] at hl
  | node a ka r =>
    cases r with
    | nil => simp [Fo.len] at hl
    | node b kb r =>
      cases r with
      | node _ _ _ => simp [Fo.len] at hl
      | nil =>
        obtain ⟨o1, o2, o3, o4, o5, o6, -⟩ := hok
        simp only [Txt.Fo.items] at hs
        obtain ⟨g, cap, v0, e0, hc, hg, c0, s0⟩ := hs.at 0 (by simp)
        obtain ⟨g', cap', v1, e1, -, -, c1, s1⟩ := hs.at 1 (by simp)
        rw [e0] at e1
        simp only [Value.slice.injEq, Option.some.injEq, Addr.mk.injEq] at e1
        obtain ⟨⟨rfl, -, -⟩, -, rfl⟩ := e1
        simp only [Fo.flat, List.length_cons, List.length_append, List.length_nil] at hsz
        exact ⟨a, ka, b, kb, g, cap, v0, v1, rfl, e0, hc, hg, c0, c1, ⟨s0 _ hsees, o1, o2, o3, by simp only [List.length_cons]; omega, fun d hd => hfi d (by simp only [Fo.flat, List.mem_cons, List.mem_append] at hd ⊢; rcases hd with h | h <;> simp [h])⟩, ⟨s1 _ hsees, o4, o5, o6, by simp only [List.length_cons]; omega, fun d hd => hfi d (by simp only [Fo.flat, List.mem_cons, List.mem_append] at hd ⊢; rcases hd with h | h <;> simp [h])⟩⟩
/-- 0: of a term, 1: of the second of a list's two parts. -/
def Txt.Fo.prop : Fo → Nat → Bool
  | .nil, _ => false
  | .node c k r, m => if m = 0 then (if c.kind = 7 then k.prop 1 else c.kind == 6) else r.prop 0
def propT (c : Cl) (k : Fo) : Bool := (Fo.node c k .nil).prop 0
theorem propT_7 {c a b : Cl} {ka kb : Fo} (h : c.kind = 7) : propT c (.node a ka (.node b kb .nil)) = propT b kb := by
  unfold propT
  rw [Txt.Fo.prop, if_pos rfl, if_pos h]; rfl
theorem propT_not {c : Cl} {k : Fo} (h : c.kind ≠ 7) : propT c k = (c.kind == 6) := by
  unfold propT
  rw [Txt.Fo.prop, if_pos rfl, if_neg h]
def lenT : Value → Nat
  | .slice _ n _ => n
  | _ => 0
set_option maxHeartbeats 4000000 in
set_option maxRecDepth 100000 in
theorem rproper_calls (x : Value) (c : Cl) (k : Fo) (w : World) (hx : TS w x c k) :
    Calls Tryz.prog 118 #[x] w fun e w' => e = .returned (.bool (propT c k)) ∧ Below w.heap.size w w' := by
  have HX := Lib.hid hx
  obtain ⟨P, hP⟩ : ∃ P, propT c k = P := ⟨_, rfl⟩
  have HP := Lib.hid hP
  rw [hP]; clear hP
  obtain ⟨ad, n, cap, rfl, -⟩ := hx.at
  go_enter Tryz.func118, Tryz.ntmps118
  go_wp2_with fail
  go_loopw [0] (fun x wr => ∃ (c' : Cl) (k' : Fo), Hid (TS wr x c' k') ∧ Hid (propT c' k' = P) ∧ Hid (Below w.heap.size w wr)) (fun x _ => lenT x)
  case atStart => exact ⟨c, k, HX, HP, Lib.hid (Below.refl _ _)⟩
  case round =>
    obtain ⟨c', k', HT, HP', HB⟩ := hrel
    obtain ⟨ad', n', cap', rfl, hn', hcap', hblk', c0, c1, c2⟩ := HT.out.at
    clear HX
    have hz : ((0 : Int) < (n' : Int) + 1) := by omega
    by_cases h7 : c'.kind = 7
    · have h7' : (c'.kind == 7) = true := beq_iff_eq.2 h7
      have hpc := HT.out.parts
      have HPC := Lib.hid hpc; clear hpc
      have H7 := Lib.hid h7; clear h7
      go_wp2_with fail
      refine HPC.out.mono ?_
      rintro e w1 ⟨v, rfl, hs, hb⟩
      have hts := HT.out.below hb
      obtain ⟨a, ka, b, kb, g, cap2, v0, v1, rfl, rfl, hc2, hg, d0, d1, t0, t1⟩ := two_parts hs hts H7.out
      have HB1 := Lib.hid (HB.out.trans (hb.mono HB.out.size)); clear hb hts hs
      have HT1 := Lib.hid t1; clear t0 c0 c1 c2
      have hp2 : propT b kb = P := by rw [← propT_7 H7.out]; exact HP'.out
      have HP2 := Lib.hid hp2; clear hp2
      obtain ⟨ad2, n2, cap3, hv1, hn2, -⟩ := t1.at
      subst hv1; clear t1
      go_wp2
      go_roundw
      case rel => exact ⟨b, kb, HT1, HP2, HB1⟩
      case measure => have e1 := hn'.out; have e2 := hn2.out; simp [lenT]; rw [e1, e2]; simp [Fo.flat]; omega
    · have h7' : (c'.kind == 7) = false := beq_eq_false_iff_ne.2 h7
      have hp2 : (c'.kind == 6) = P := by rw [← propT_not h7]; exact HP'.out
      have HP2 := Lib.hid hp2; clear hp2 h7
      go_wp2
      go_ret
      exact ⟨by rw [← HP2.out]; rfl, HB.out⟩
end Go.Proofs.YtejpdfenejbjdaaGreatDoor

namespace Go.Proofs.YtejpdfenejbjdaaGreatDoor
open Go.RowKit Txt
set_option linter.unusedVariables false
set_option linter.unusedSimpArgs false

theorem txt_own {c : Cl} {k : Fo} (hc : cellE c = 0) (hf : fits c) (h1 : (k.sh 0).length ≤ 4204 * k.flat.length) (h2 : (k.sh 1).length ≤ 4204 * k.flat.length) : (Fo.txt c k).length ≤ 4200 + 4204 * k.flat.length := by
  unfold Fo.txt
  split
  · simp only [List.length_cons]; omega
  · split
    · simp only [List.length_cons, List.length_append, List.length_nil]; omega
    · rename_i h7 _
      have := leaf_len hc hf h7
      omega
theorem sh_len (f : Fo) : f.ok → (∀ d ∈ f.flat, fits d) → ∀ m, m ≤ 2 → (f.sh m).length ≤ 4204 * f.flat.length := by
  induction f with
  | nil => intro _ _ m _; simp [Fo.sh]
  | node c k r ihk ihr =>
    intro ⟨hc, _, hko, hro⟩ hf m hm
    have hfk : ∀ d ∈ k.flat, fits d := fun d hd => hf d (by simp [Fo.flat, hd])
    have hfr : ∀ d ∈ r.flat, fits d := fun d hd => hf d (by simp [Fo.flat, hd])
    have k0 := ihk hko hfk 0 (by omega)
    have k1 := ihk hko hfk 1 (by omega)
    have r0 := ihr hro hfr 0 (by omega)
    have r2 := ihr hro hfr 2 (by omega)
    have ho := txt_own hc (hf c (by simp [Fo.flat])) k0 k1
    have e : (Fo.node c k r).flat.length = 1 + k.flat.length + r.flat.length := by simp [Fo.flat]; omega
    rw [e]
    rcases (by omega : m = 0 ∨ m = 1 ∨ m = 2) with rfl | rfl | rfl
    · rw [Fo.sh_0, List.length_append]
      split
      · simp only [List.length_nil]; omega
      · simp only [List.length_cons]; omega
    · rw [Fo.sh_1, List.length_append]; omega
    · rw [Fo.sh_2]
      split
      · simp only [List.length_cons]; omega
      · split
        · simp only [List.length_cons, List.length_nil]; omega
        · simp only [List.length_cons, List.length_append, List.length_nil]; omega
theorem TS.sh_len {w : World} {x : Value} {c : Cl} {k : Fo} (h : TS w x c k) (m : Nat) (hm : m ≤ 2) : (k.sh m).length ≤ 4300800 := by
  have := Go.Proofs.YtejpdfenejbjdaaGreatDoor.sh_len k h.ok (fun d hd => h.fits d (List.mem_cons_of_mem _ hd)) m hm
  have hs := h.size
  rw [List.length_cons] at hs
  omega
theorem TS.txt_len {w : World} {x : Value} {c : Cl} {k : Fo} (h : TS w x c k) : (Fo.txt c k).length ≤ 4400000 := by
  have h0 := Go.Proofs.YtejpdfenejbjdaaGreatDoor.sh_len k h.ok (fun d hd => h.fits d (List.mem_cons_of_mem _ hd)) 0 (by omega)
  have h1 := Go.Proofs.YtejpdfenejbjdaaGreatDoor.sh_len k h.ok (fun d hd => h.fits d (List.mem_cons_of_mem _ hd)) 1 (by omega)
  have := txt_own h.cell (h.fits c (by simp)) h0 h1
  have hs := h.size
  rw [List.length_cons] at hs
  omega
theorem txt_ne {c : Cl} {k : Fo} (h : cellE c = 0) : Fo.txt c k ≠ [] := by
  unfold Fo.txt
  split
  · simp
  · split
    · simp
    · rename_i h7 _
      obtain ⟨d, l, e, -⟩ := leaf_lead h h7
      rw [e]; simp

/-- The elements that are left of a tuple. -/
def tailT (j : Nat) (r : Fo) : List UInt8 := if j = 0 ∨ r.len = 0 then r.sh 0 else 44 :: r.sh 0
theorem tailT_node (j : Nat) (a : Cl) (ka r : Fo) : tailT j (.node a ka r) = (if j = 0 then [] else [44]) ++ Fo.txt a ka ++ tailT (j + 1) r := by
  unfold tailT
  have : (Fo.node a ka r).len ≠ 0 := by simp [Fo.len]
  rw [Fo.sh_0]
  by_cases hj : j = 0
  · subst hj
    rw [if_pos (.inl rfl), if_pos rfl]
    by_cases hr : r.len = 0
    · rw [if_pos hr, if_pos (.inr hr)]
      cases r with
      | nil => simp [Fo.sh]
      | node _ _ _ => simp [Fo.len] at hr
    · rw [if_neg hr, if_neg (by omega)]; simp
  · rw [if_neg (by omega), if_neg hj]
    by_cases hr : r.len = 0
    · rw [if_pos hr, if_pos (.inr hr)]
      cases r with
      | nil => simp [Fo.sh]
      | node _ _ _ => simp [Fo.len] at hr
    · rw [if_neg hr, if_neg (by omega)]; simp
/-- What is left of a list. -/
def tailL (i : Nat) (c : Cl) (k : Fo) : List UInt8 := if c.kind = 7 then (if i = 0 then k.sh 1 else 44 :: k.sh 1) else if c.kind = 6 then [93] else 124 :: (Fo.txt c k ++ [93])
theorem tailL_7 (i : Nat) {c a b : Cl} {ka kb : Fo} (h : c.kind = 7) : tailL i c (.node a ka (.node b kb .nil)) = (if i = 0 then [] else [44]) ++ Fo.txt a ka ++ tailL (i + 1) b kb := by
  have e : (Fo.node a ka (.node b kb .nil)).sh 1 = Fo.txt a ka ++ tailL (i + 1) b kb := by
    rw [Fo.sh_1, Fo.sh_2]; unfold tailL; simp
  unfold tailL at e ⊢
  rw [if_pos h, e]
  by_cases hi : i = 0
  · rw [if_pos hi, if_pos hi]; simp
  · rw [if_neg hi, if_neg hi]; simp

/-- An element of a tuple. -/
theorem items_sub (f : Fo) : ∀ l ∈ f.items, (∀ d ∈ l, d ∈ f.flat) ∧ l.length ≤ f.flat.length := by
  induction f with
  | nil => intro l hl; simp [Txt.Fo.items] at hl
  | node c k r _ ih =>
    intro l hl
    simp only [Txt.Fo.items, List.mem_cons] at hl
    rcases hl with rfl | hl
    · refine ⟨fun d hd => ?_, by simp [Fo.flat]⟩
      simp only [List.mem_cons] at hd
      rcases hd with h | h <;> simp [Fo.flat, h]
    · obtain ⟨h1, h2⟩ := ih l hl
      exact ⟨fun d hd => by simp [Fo.flat, h1 d hd], by simp [Fo.flat]; omega⟩
theorem TS.item {w w' : World} {x v : Value} {c a : Cl} {k ka r : Fo} {dn : List (List Cl)} (h : TS w x c k) (hs : SeesTL (fun W => SeesT W x (c :: k.flat)) w' v k.items) (hi : k.items = dn ++ (Fo.node a ka r).items) (ho : (Fo.node a ka r).ok) :
    ∃ g cap u, v = .slice (some ⟨g, 0, none⟩) k.len cap ∧ k.len ≤ cap ∧ dn.length < k.len ∧ g < w'.heap.size ∧ w'.cell? ⟨g, dn.length, none⟩ = some u ∧ TS w u a ka ∧ (a :: ka.flat).length < (c :: k.flat).length := by
  have hlt : dn.length < k.items.length := by rw [hi]; simp [Txt.Fo.items]
  obtain ⟨g, cap, u, e, hc, hg, cu, su⟩ := hs.at dn.length hlt
  have hel : k.items[dn.length] = a :: ka.flat := by
    simp only [hi]
    rw [List.getElem_append_right (Nat.le_refl _)]
    simp [Txt.Fo.items]
  rw [hel] at su
  have hmem : a :: ka.flat ∈ k.items := by rw [← hel]; exact List.getElem_mem hlt
  obtain ⟨m1, m2⟩ := items_sub k _ hmem
  have hsz := h.size
  rw [List.length_cons] at hsz
  rw [items_len] at e hc hlt
  obtain ⟨o1, o2, o3, -⟩ := ho
  exact ⟨g, cap, u, e, hc, hlt, hg, cu, ⟨su _ h.sees, o1, o2, o3, by omega, fun d hd => h.fits d (List.mem_cons_of_mem _ (m1 d hd))⟩, by rw [List.length_cons (a := c)]; omega⟩
/-- An own text as a slice. -/
theorem OwnB.slice {base : Nat} {w : World} {v : Value} {l : List UInt8} (h : OwnB base w v l) (hl : l ≠ []) : ∃ g cap, v = .slice (some ⟨g, 0, none⟩) l.length cap ∧ ∀ j u, (Lib.byteCells l)[j]? = some u → w.cell? ((⟨g, 0, none⟩ : Addr).add j) = some u := by
  obtain ⟨h1, ⟨rfl, h0⟩ | ⟨g, cap, cur, rfl, -⟩⟩ := id h
  · exact absurd (List.length_eq_zero_iff.1 h0) hl
  · refine ⟨g, cap, rfl, fun j u hj => ?_⟩
    have hjl := (List.getElem?_eq_some_iff.1 hj).1
    rw [byteCells_length] at hjl
    have := World.ownsRow.cellAt h j (by omega)
    rw [← hj, ← this]
    congr 1
    unfold Addr.add; split
    · subst_vars; rfl
    · simp
/-- The cell that 'show' has copied. -/
structure BX (w : World) (o : Obj) (x : World) : Prop where
  size : w.heap.size + 1 ≤ x.heap.size
  be : Below w.heap.size w x
  box : x.heap[w.heap.size]? = some o
theorem BX.start (w : World) (o : Obj) : BX w o (w.alloc o) :=
  ⟨by simp, (Below.refl w.heap.size w).alloc (Nat.le_refl _) o, Array.getElem?_push_size⟩
theorem BX.trans {w x y : World} {o : Obj} (h : BX w o x) (hb : Below (w.heap.size + 1) x y) : BX w o y :=
  ⟨Nat.le_trans h.size hb.size, h.be.trans (hb.mono (by omega)), (hb.block _ (by omega)).trans h.box⟩
theorem BX.after {w x y : World} {o : Obj} (h : BX w o x) (hb : Below x.heap.size x y) : BX w o y := h.trans (hb.mono h.size)
theorem BX.alloc {w x : World} {o : Obj} (h : BX w o x) (u : Obj) : BX w o (x.alloc u) := h.after ((Below.refl _ _).alloc (Nat.le_refl _) u)
theorem BX.grown {w x y : World} {o : Obj} {row : Option Nat} (h : BX w o x) (hg : x.grownBy y row) (hr : ∀ g, row = some g → w.heap.size + 1 ≤ g) : BX w o y :=
  h.trans (below_grown hg hr h.size)
theorem BX.cell {w x : World} {c : Cl} (h : BX w (.cells #[.int .i64 c.kind, .int .i64 c.n, .string c.text] 74) x) :
    x.cell? ⟨w.heap.size, 0, none⟩ = some (.int .i64 c.kind) ∧ x.cell? ⟨w.heap.size, 1, none⟩ = some (.int .i64 c.n) ∧ x.cell? ⟨w.heap.size, 2, none⟩ = some (.string c.text) := by
  have := h.box
  refine ⟨?_, ?_, ?_⟩ <;> (simp only [World.cell?, this]; rfl)
/-- A number behind an own text. -/
theorem append_int {w x : World} {o : Obj} {v : Value} {t : List UInt8} (hB : BX w o x) (ht : Tabs w) (i : Int) (h : OwnB (w.heap.size + 1) x v t) (h0 : -9223372036854775808 ≤ i) (h1 : i ≤ 9223372036854775807) (hl : t.length ≤ 100000) :
    Calls Tryz.prog 114 #[v, .int .i64 i, .int .i64 10] x fun e w' => ∃ v', e = .returned v' ∧ OwnB (w.heap.size + 1) w' v' (t ++ Lib.itoa i) ∧ BX w o w' := by
  refine (Tryz.strconv_AppendInt_10 (w.heap.size + 1) _ i h0 h1 _ _ _ h hB.size (by omega) (tabBelow (ht.below hB.be) (by have := ht.lt; omega) hB.size)).mono ?_
  rintro e w1 ⟨v', rfl, ho, hb1, -⟩
  exact ⟨v', rfl, OwnB.appended ho rfl, hB.trans hb1⟩
end Go.Proofs.YtejpdfenejbjdaaGreatDoor
