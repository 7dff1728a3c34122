/- Walks: Parse's inner function, with what it catches. -/
import Derived.Test.YtebdikbngnolbaaDoorCaught
namespace Go.Proofs.YtebdikbngnolbaaDoor
open Go.RowKit Txt
set_option linter.unusedVariables false
set_option linter.unusedSimpArgs false

/-- What the inner function of Parse comes to. -/
def parse1 (s : ByteArray) : PR (List Cl) :=
  match term (fuel s 0) s 0 with
  | .bad e a => .bad e a
  | .ok t q => if skip s q < s.size then .bad 70 (skip s q) else if t.length > 1024 then .bad 7 0 else .ok t 0

def P1 (B gf gt : Nat) (w : World) (r : PR (List Cl)) (e : Ending) (w' : World) : Prop :=
  e = .returned (.tuple #[]) ∧ Below B w w' ∧ w'.frozen? ⟨gt, 0, none⟩ = false ∧ (∃ v, w'.cell? ⟨gt, 0, none⟩ = some v ∧ ∀ t q, r = .ok t q → OwnT w.heap.size w' v t) ∧
    (∀ t q, r = .ok t q → w'.cell? ⟨gf, 0, none⟩ = some (.int .i64 0) ∧ w'.cell? ⟨gf, 1, none⟩ = some (.int .i64 0)) ∧ (∀ c a, r = .bad c a → w'.cell? ⟨gf, 0, none⟩ = some (.int .i64 c) ∧ w'.cell? ⟨gf, 1, none⟩ = some (.int .i64 (a : Int)))

/-- The variables of Parse that its inner function shares. -/
structure V1 (B gf gs gt : Nat) (s : ByteArray) (w : World) : Prop where
  lf : gf < w.heap.size
  ls : gs < w.heap.size
  lt : gt < w.heap.size
  bf : B ≤ gf
  bt : B ≤ gt
  nf : gf ≠ gt
  ns : gs ≠ gt
  nfs : gs ≠ gf
  cs : w.cell? ⟨gs, 0, none⟩ = some (.string s)
  f0 : w.cell? ⟨gf, 0, none⟩ = some (.int .i64 0)
  f1 : w.cell? ⟨gf, 1, none⟩ = some (.int .i64 0)
  t0 : ∃ v, w.cell? ⟨gt, 0, none⟩ = some v
  zf0 : w.frozen? ⟨gf, 0, none⟩ = false
  zf1 : w.frozen? ⟨gf, 1, none⟩ = false
  zt : w.frozen? ⟨gt, 0, none⟩ = false
theorem V1.keep {B gf gs gt : Nat} {s : ByteArray} {w w' : World} (h : V1 B gf gs gt s w) (hs : w.heap.size ≤ w'.heap.size) (hb : ∀ k, k < w.heap.size → w'.heap[k]? = w.heap[k]?) : V1 B gf gs gt s w' := by
  obtain ⟨v, hv⟩ := h.t0
  exact ⟨Nat.lt_of_lt_of_le h.lf hs, Nat.lt_of_lt_of_le h.ls hs, Nat.lt_of_lt_of_le h.lt hs, h.bf, h.bt, h.nf, h.ns, h.nfs, (World.cell?_of_block (w := w) (hb _ h.ls)).trans h.cs, (World.cell?_of_block (w := w) (hb _ h.lf)).trans h.f0, (World.cell?_of_block (w := w) (hb _ h.lf)).trans h.f1,
    ⟨v, (World.cell?_of_block (w := w) (hb _ h.lt)).trans hv⟩, (World.frozen?_of_block (w := w) (hb _ h.lf)).trans h.zf0, (World.frozen?_of_block (w := w) (hb _ h.lf)).trans h.zf1, (World.frozen?_of_block (w := w) (hb _ h.lt)).trans h.zt⟩

theorem rd_new (s : ByteArray) (w : World) : Rd w.heap.size s 0 (w.alloc (.cells #[.string s, .int .i64 0] 47)) := by
  refine ⟨by simp, ?_, ?_, ?_, ?_⟩
  all_goals (simp only [World.cell?, World.frozen?, heap_alloc_new]; rfl)

theorem p1_catch {B gf gt : Nat} {e1 : Int} {a1 : Nat} {w W w2 : World} (hW : Below B w W) (lf : gf < W.heap.size) (lt : gt < W.heap.size) (t0 : ∃ v, W.cell? ⟨gt, 0, none⟩ = some v) (zt : W.frozen? ⟨gt, 0, none⟩ = false) (nf : gf ≠ gt) (hB : B ≤ gf) (hm : Mv gf W w2)
    (k0 : w2.cell? ⟨gf, 0, none⟩ = some (.int .i64 e1)) (k1 : w2.cell? ⟨gf, 1, none⟩ = some (.int .i64 (a1 : Int))) : P1 B gf gt w (.bad e1 a1) (.returned (.tuple #[])) w2 := by
  obtain ⟨v, hv⟩ := t0
  have hk := hm.block gt lt (Ne.symm nf)
  refine ⟨rfl, ⟨hm.os.trans hW.os, hm.tape.trans hW.tape, hm.output.trans hW.output, Nat.le_trans hW.size hm.size, fun k hk => (hm.block k ?_ (by omega)).trans (hW.block k hk)⟩, (World.frozen?_of_block (w := W) hk).trans zt, ⟨v, (World.cell?_of_block (w := W) hk).trans hv, (fun t q h => by cases h)⟩, (fun t q h => by cases h), (fun c a h => by cases h; exact ⟨k0, k1⟩)⟩
  omega

set_option maxHeartbeats 2000000 in
set_option maxRecDepth 100000 in
theorem parse1_bad (B gf gs gt : Nat) (s : ByteArray) (e1 : Int) (a1 : Nat) (w : World) (hv : V1 B gf gs gt s w) (hs : s.size ≤ 65536) (ht : Tabs w) (hB : B ≤ w.heap.size) (hterm : term (fuel s 0) s 0 = .bad e1 a1) :
    Calls Tryd.prog 14 #[.pointer (some ⟨gf, 0, none⟩), .pointer (some ⟨gs, 0, none⟩), .pointer (some ⟨gt, 0, none⟩)] w (P1 B gf gt w (.bad e1 a1)) := by
  have HV := Lib.hid hv
  have hcs := hv.cs
  have HT := Lib.hid ht; clear ht hv
  have htc := term_calls w.heap.size s (fuel s 0) 0 _ (rd_new s w) (Nat.zero_le _) (by omega) (HT.out.alloc _) HT.out.lt (by unfold fuel; omega)
  rw [hterm] at htc
  have HTC := Lib.hid htc; clear htc hterm
  have hmf : ∀ (fn : Fn) (first cap : Array Value) (w : World), (Instr.makeFunc fn first cap).run Tryd.prog w = .ok (.func fn first cap) w := fun _ _ _ _ => rfl
  go_enter_defers Tryd.func14, Tryd.ntmps14
  go_wp2_with fail
  refine (HTC.out).mono ?_
  rintro e w1 ⟨rfl, hm⟩
  have hm' := ((Mv.refl w.heap.size w).alloc _).trans hm
  have hV1 := HV.out.keep hm'.size (fun k hk => hm'.block k hk (by omega))
  have HM := Lib.hid (And.intro hV1 hm'); clear hm hm' hV1
  go_wp2
  refine leaves_cons (f := 15) (args := #[.pointer (some ⟨gf, 0, none⟩)]) (by simp) (by simp [go_sem]) ?_
  refine (caught_hit gf e1 (a1 : Int) _ _ _ HM.out.1.f0 HM.out.1.f1 HM.out.1.zf0 HM.out.1.zf1).mono ?_
  rintro e u' w'' ⟨rfl, rfl, hm2, k0, k1⟩
  have hb1 : Below B w w1 := ⟨HM.out.2.os, HM.out.2.tape, HM.out.2.output, HM.out.2.size, fun k hk => HM.out.2.block k (by omega) (by omega)⟩
  exact ⟨_, results_none rfl _ _ _, p1_catch hb1 HM.out.1.lf HM.out.1.lt HM.out.1.t0 HM.out.1.zt HM.out.1.nf HM.out.1.bf hm2 k0 k1⟩

/-- What is so behind the term. -/
structure Q1 (B gf gs gt b : Nat) (s : ByteArray) (x : Value) (t : List Cl) (q : Nat) (w w' : World) : Prop where
  rd : Rd b s q w'
  own : OwnT w.heap.size w' x t
  below : Below B w w'
  lf : gf < w'.heap.size
  lt : gt < w'.heap.size
  cs : w'.cell? ⟨gs, 0, none⟩ = some (.string s)
  f0 : w'.cell? ⟨gf, 0, none⟩ = some (.int .i64 0)
  f1 : w'.cell? ⟨gf, 1, none⟩ = some (.int .i64 0)
  t0 : w'.cell? ⟨gt, 0, none⟩ = some x
  zf0 : w'.frozen? ⟨gf, 0, none⟩ = false
  zf1 : w'.frozen? ⟨gf, 1, none⟩ = false
  zt : w'.frozen? ⟨gt, 0, none⟩ = false
  base : ∀ g, x.ownBlock = some g → w.heap.size + 1 ≤ g
theorem q1_init {B gf gs gt : Nat} {s : ByteArray} {x : Value} {t : List Cl} {q : Nat} {w w1 : World} (hv : V1 B gf gs gt s w) (hv1 : V1 B gf gs gt s w1) (hm : Mv w.heap.size w w1) (ho : OwnT (w.heap.size + 1) w1 x t) (hr : Rd w.heap.size s q w1) (hB : B ≤ w.heap.size) :
    Q1 B gf gs gt w.heap.size s x t q w (w1.setCell ⟨gt, 0, none⟩ x) := by
  have hset : Mv gt w1 (w1.setCell ⟨gt, 0, none⟩ x) := (Mv.refl gt w1).setAt 0 x
  have hlt := hv.lt
  have hbt := hv.bt
  obtain ⟨v0, h0⟩ := hv1.t0
  have hbf := hset.block gf hv1.lf hv1.nf
  have hbs := hset.block gs hv1.ls hv1.ns
  exact ⟨hr.keep hset.size (hset.block _ hr.lt (by omega)), (ho.mv hset (by omega)).mono (by omega), ⟨hset.os.trans hm.os, hset.tape.trans hm.tape, hset.output.trans hm.output, Nat.le_trans hm.size hset.size, fun k hk => (hset.block k (by have := hm.size; omega) (by omega)).trans (hm.block k (by omega) (by omega))⟩,
    Nat.lt_of_lt_of_le hv1.lf hset.size, Nat.lt_of_lt_of_le hv1.lt hset.size, (World.cell?_of_block (w := w1) hbs).trans hv1.cs, (World.cell?_of_block (w := w1) hbf).trans hv1.f0, (World.cell?_of_block (w := w1) hbf).trans hv1.f1, cell_eq h0 _,
    (World.frozen?_of_block (w := w1) hbf).trans hv1.zf0, (World.frozen?_of_block (w := w1) hbf).trans hv1.zf1, (frozen_set _ _ _ _).trans hv1.zt, ho.own_ge⟩
theorem Q1.step {B gf gs gt : Nat} {s : ByteArray} {x : Value} {t : List Cl} {q q' : Nat} {w w1 w2 : World} (h : Q1 B gf gs gt w.heap.size s x t q w w1) (hv : V1 B gf gs gt s w) (hB : B ≤ w.heap.size) (hm : Mv w.heap.size w1 w2) (hr : Rd w.heap.size s q' w2) : Q1 B gf gs gt w.heap.size s x t q' w w2 := by
  have l1 := hv.lf
  have l2 := hv.lt
  have l3 := hv.ls
  have hws := h.rd.lt
  have hbf := hm.block gf h.lf (by omega)
  have hbt := hm.block gt h.lt (by omega)
  have hbs := hm.block gs (by omega) (by omega)
  refine ⟨hr, h.own.keep fun g hg hgo hgl => hm.block g hgl ?_, ⟨hm.os.trans h.below.os, hm.tape.trans h.below.tape, hm.output.trans h.below.output, Nat.le_trans h.below.size hm.size, fun k hk => (hm.block k (by omega) (by omega)).trans (h.below.block k hk)⟩,
    Nat.lt_of_lt_of_le h.lf hm.size, Nat.lt_of_lt_of_le h.lt hm.size, (World.cell?_of_block (w := w1) hbs).trans h.cs, (World.cell?_of_block (w := w1) hbf).trans h.f0, (World.cell?_of_block (w := w1) hbf).trans h.f1, (World.cell?_of_block (w := w1) hbt).trans h.t0,
    (World.frozen?_of_block (w := w1) hbf).trans h.zf0, (World.frozen?_of_block (w := w1) hbf).trans h.zf1, (World.frozen?_of_block (w := w1) hbt).trans h.zt, h.base⟩
  have := h.base g hgo; omega

set_option maxHeartbeats 2000000 in
set_option maxRecDepth 100000 in
theorem parse1_ok (B gf gs gt : Nat) (s : ByteArray) (t : List Cl) (q : Nat) (w : World) (hv : V1 B gf gs gt s w) (hs : s.size ≤ 65536) (ht : Tabs w) (hB : B ≤ w.heap.size) (hterm : term (fuel s 0) s 0 = .ok t q) :
    Calls Tryd.prog 14 #[.pointer (some ⟨gf, 0, none⟩), .pointer (some ⟨gs, 0, none⟩), .pointer (some ⟨gt, 0, none⟩)] w (P1 B gf gt w (if skip s q < s.size then .bad 70 (skip s q) else if t.length > 1024 then .bad 7 0 else .ok t 0)) := by
  generalize hRES : (if skip s q < s.size then (.bad 70 (skip s q) : PR (List Cl)) else if t.length > 1024 then .bad 7 0 else .ok t 0) = RES
  have HRES := Lib.hid hRES; clear hRES
  have hq := (term_p (Nat.zero_le _) hterm).2.1
  have HV := Lib.hid hv
  have hcs := hv.cs
  have HT := Lib.hid ht; clear ht hv
  have htc := term_calls w.heap.size s (fuel s 0) 0 _ (rd_new s w) (Nat.zero_le _) (by omega) (HT.out.alloc _) HT.out.lt (by unfold fuel; omega)
  rw [hterm] at htc
  have HTC := Lib.hid htc; clear htc hterm
  have hmf : ∀ (fn : Fn) (first cap : Array Value) (w : World), (Instr.makeFunc fn first cap).run Tryd.prog w = .ok (.func fn first cap) w := fun _ _ _ _ => rfl
  go_enter_defers Tryd.func14, Tryd.ntmps14
  go_wp2_with fail
  refine (HTC.out).mono ?_
  rintro e w1 ⟨x, rfl, ho, hr, hm⟩
  have hm' := ((Mv.refl w.heap.size w).alloc _).trans hm
  have hV1 := HV.out.keep hm'.size (fun k hk => hm'.block k hk (by omega))
  have ho' : OwnT (w.heap.size + 1) w1 x t := OwnT.mono ho (by simp)
  obtain ⟨A, xc, rfl, -, -⟩ := ho'.sees
  have HM := Lib.hid (And.intro hV1 (And.intro hm' (And.intro ho' hr))); clear hm hm' hV1 ho ho' hr
  obtain ⟨v0, k0⟩ := HM.out.1.t0
  have z0 := HM.out.1.zt
  go_wp2_with fail
  have HQ := Lib.hid (q1_init HV.out HM.out.1 HM.out.2.1 HM.out.2.2.1 HM.out.2.2.2 hB)
  clear k0 z0 hcs
  refine (blanks_calls w.heap.size s q _ HQ.out.rd hq (by omega)).mono ?_
  rintro e w2 ⟨rfl, hr2, hm2⟩
  have HQ2 := Lib.hid (HQ.out.step HV.out hB hm2 hr2); clear hr2 hm2
  have hsk := skip_le hq
  generalize skip s q = z at *
  have c1 := HQ2.out.rd.c1
  have hcs := HQ2.out.cs
  go_wp2_with fail
  go_quiet (fail)
  have HQ3 := Lib.hid (HQ2.out.step HV.out hB ((Mv.refl _ _).drewN nq) (HQ2.out.rd.drewN nq))
  clear hcs
  have t0 := HQ3.out.t0
  by_cases hz : z < s.size
  · have hRES := HRES.out
    rw [if_pos hz] at hRES
    subst hRES
    go_wp2_with fail
    refine (fail_calls _ _ _ _).mono ?_
    rintro e w6 ⟨rfl, rfl⟩
    go_wp2
    refine leaves_cons (f := 15) (args := #[.pointer (some ⟨gf, 0, none⟩)]) (by simp) (by simp [go_sem]) ?_
    refine (caught_hit gf 70 (z : Int) _ _ _ HQ3.out.f0 HQ3.out.f1 HQ3.out.zf0 HQ3.out.zf1).mono ?_
    rintro e u' w'' ⟨rfl, rfl, hm2, k0, k1⟩
    exact ⟨_, results_none rfl _ _ _, p1_catch HQ3.out.below HQ3.out.lf HQ3.out.lt ⟨_, HQ3.out.t0⟩ HQ3.out.zt HV.out.nf HV.out.bf hm2 k0 k1⟩
  · have hRES := HRES.out
    rw [if_neg hz] at hRES
    by_cases hbig : t.length > 1024
    · rw [if_pos hbig] at hRES
      subst hRES
      go_wp2_with fail
      refine (fail_calls _ _ _ _).mono ?_
      rintro e w6 ⟨rfl, rfl⟩
      go_wp2
      refine leaves_cons (f := 15) (args := #[.pointer (some ⟨gf, 0, none⟩)]) (by simp) (by simp [go_sem]) ?_
      refine (caught_hit gf 7 ((0 : Nat) : Int) _ _ _ HQ3.out.f0 HQ3.out.f1 HQ3.out.zf0 HQ3.out.zf1).mono ?_
      rintro e u' w'' ⟨rfl, rfl, hm2, k0, k1⟩
      exact ⟨_, results_none rfl _ _ _, p1_catch HQ3.out.below HQ3.out.lf HQ3.out.lt ⟨_, HQ3.out.t0⟩ HQ3.out.zt HV.out.nf HV.out.bf hm2 k0 k1⟩
    · rw [if_neg hbig] at hRES
      subst hRES
      go_wp2
      refine leaves_cons (f := 15) (args := #[.pointer (some ⟨gf, 0, none⟩)]) (by simp) (by simp [go_sem]) ?_
      refine (caught_idle ⟨gf, 0, none⟩ _).mono ?_
      rintro e u' w'' ⟨rfl, rfl, rfl⟩
      exact ⟨_, results_none rfl _ _ _, rfl, HQ3.out.below, HQ3.out.zt, ⟨_, HQ3.out.t0, (fun t' q' h => by cases h; exact HQ3.out.own)⟩, (fun t' q' h => ⟨HQ3.out.f0, HQ3.out.f1⟩), (fun c a h => by cases h)⟩

theorem parse1_calls (B gf gs gt : Nat) (s : ByteArray) (w : World) (hv : V1 B gf gs gt s w) (hs : s.size ≤ 65536) (ht : Tabs w) (hB : B ≤ w.heap.size) :
    Calls Tryd.prog 14 #[.pointer (some ⟨gf, 0, none⟩), .pointer (some ⟨gs, 0, none⟩), .pointer (some ⟨gt, 0, none⟩)] w (P1 B gf gt w (parse1 s)) := by
  unfold parse1
  cases h : term (fuel s 0) s 0 with
  | bad e a => exact parse1_bad B gf gs gt s e a w hv hs ht hB h
  | ok t q => exact parse1_ok B gf gs gt s t q w hv hs ht hB h
end Go.Proofs.YtebdikbngnolbaaDoor
