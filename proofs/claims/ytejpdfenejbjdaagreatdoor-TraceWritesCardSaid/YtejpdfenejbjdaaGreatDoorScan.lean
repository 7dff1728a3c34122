/- Walks: the atom that begins at a place. -/
import Derived.Test.YtejpdfenejbjdaaGreatDoorAtomE
import Derived.OwnWalk
namespace Go.Proofs.YtejpdfenejbjdaaGreatDoor
open Go.RowKit Txt
set_option linter.unusedVariables false
set_option linter.unusedSimpArgs false

theorem quotedAF_p {s : ByteArray} : ∀ {k : Nat} {x y : AS}, x.out.length ≤ 4 * x.p → quotedAF s k x = some y → x.p < y.p ∧ y.p ≤ s.size ∧ y.out.length ≤ 4 * y.p := by
  intro k
  induction k with
  | zero => intro x y _ h; rw [quotedAF] at h; cases h
  | succ k ih =>
    intro x y hl h
    rw [quotedAF] at h
    split at h
    · rename_i hlt
      have hin := decode_in s x.p hlt
      have hpos := width_pos s x.p hlt
      simp only at h
      split at h
      · cases h
      · split at h
        · cases h; simp only; omega
        · split at h
          · cases hs : specialA s { x with p := x.p + (Utf8.decode s x.p).2 } with
            | none => rw [hs] at h; cases h
            | some z =>
              rw [hs] at h
              simp only at h
              have h1 := specialA_p hs
              simp only at h1
              have := ih (by omega) h
              omega
          · have he := encode_le (Utf8.decode s x.p).1
            have := ih (by simp only [List.length_append]; omega) h
            simp only at this
            omega
    · cases h

theorem runEnd_in {s : ByteArray} {p : Nat} (hp : p ≤ s.size) : p ≤ runEnd s p ∧ runEnd s p ≤ s.size := by
  unfold runEnd
  split
  · split
    · exact ⟨le_span _ _ _, span_le hp⟩
    · exact ⟨Nat.le_refl _, hp⟩
  · exact ⟨Nat.le_refl _, hp⟩

/-- What comes of a reader of atoms. -/
def ScanR (w : World) (r : PR ByteArray) (e : Ending) (w' : World) : Prop :=
  match r with
  | .ok b q => e = .returned (.tuple #[.string b, .int .i64 (q : Int), .int .i64 0]) ∧ Below w.heap.size w w'
  | .bad c _ => e = .returned (.tuple #[.string .empty, .int .i64 0, .int .i64 c]) ∧ Below w.heap.size w w'

theorem ar_new (s : ByteArray) (p : Nat) (w : World) (v : Int) (hv : v = (p : Int)) : AR w.heap.size s ⟨p, [], false⟩ (w.alloc (.cells #[.string s, .int .i64 v, .pointer none, .slice none 0 0, .bool false] 204)) := by
  subst hv
  refine ⟨⟨by simp, by simp only [World.shape?, heap_alloc_new]; rfl, .inl (by simp only [World.cell?, heap_alloc_new]; rfl), ⟨.slice none 0 0, by simp only [World.cell?, heap_alloc_new]; rfl, ⟨by simp [Lib.byteCells], .inl ⟨rfl, rfl⟩⟩, fun _ => rfl⟩, ?_, ?_⟩, ?_, ?_, ?_, ?_, ?_, ?_⟩
  all_goals (simp only [World.cell?, World.frozen?, heap_alloc_new]; rfl)

/-- What is held of the reader while a result is put together. -/
structure ArHeld (b : Nat) (s : ByteArray) (y : AS) (w w' : World) : Prop where
  a : AR b s y w'
  m : Below b w w'

set_option maxHeartbeats 2000000 in
set_option maxRecDepth 100000 in
theorem scan_quoted (s : ByteArray) (p : Nat) (w : World) (hp : p < s.size) (hc : s[p] = 39) (hs : s.size ≤ 68719476736) (ht : Tabs w) :
    Calls Tryz.prog 137 #[.string s, .int .i64 (p : Int)] w (ScanR w (match quotedAF s (s.size - p) ⟨p + 1, [], false⟩ with | none => .bad 70 p | some y => if y.bad || !atomOk (Txt.bytes y.out) then .bad 20 p else .ok (Txt.bytes y.out) y.p)) := by
  have e39 : ((s[p].toNat : Int) == 39) = true := by rw [hc]; rfl
  have hp0 : decide ((p : Int) < 0) = false := by simp
  clear hc
  have hq := quotedA_calls w.heap.size s ⟨p + 1, [], false⟩ (s.size - p) (w.alloc (.cells #[.string s, .int .i64 ((p : Int) + 1), .pointer none, .slice none 0 0, .bool false] 204)) (ar_new s (p + 1) w _ (by omega)) (by simp) (by simp only; omega) hs (ht.alloc _) ht.lt (by simp only; omega)
  have hsz := fun y => quotedAF_p (s := s) (k := s.size - p) (x := ⟨p + 1, [], false⟩) (y := y) (by simp)
  generalize quotedAF s (s.size - p) ⟨p + 1, [], false⟩ = R at *
  have HT := Lib.hid ht; clear ht
  cases R with
  | none =>
    have HQ := Lib.hid hq; clear hq hsz
    go_enter Tryz.func137, Tryz.ntmps137
    go_wp2_with fail
    refine (HQ.out).mono ?_
    rintro e w1 ⟨rfl, -, hb⟩
    have HB := Lib.hid (((Below.refl _ _).alloc (Nat.le_refl _) _).trans hb); clear hb
    go_wp2
    go_ret3
    exact ⟨rfl, HB.out⟩
  | some y =>
    have hyp := hsz y rfl
    have HY := Lib.hid hyp; clear hyp
    have HQ := Lib.hid hq; clear hq hsz
    obtain ⟨yp, yo, yb⟩ := y
    cases yb with
    | true =>
      simp only [Bool.true_or, if_true]
      go_enter Tryz.func137, Tryz.ntmps137
      go_wp2_with fail
      refine (HQ.out).mono ?_
      rintro e w1 ⟨rfl, har, hb⟩
      have HB := Lib.hid (((Below.refl _ _).alloc (Nat.le_refl _) _).trans hb); clear hb
      have c4 := har.c4
      have HA := Lib.hid har; clear har
      go_wp2
      go_ret3
      exact ⟨rfl, HB.out⟩
    | false =>
      simp only [Bool.false_or]
      generalize hok : atomOk (Txt.bytes yo) = t
      have HOK := Lib.hid hok; clear hok
      generalize hRES : (if (!t) = true then (PR.bad 20 p : PR ByteArray) else PR.ok (Txt.bytes yo) yp) = RES
      have HRES := Lib.hid hRES; clear hRES
      go_enter Tryz.func137, Tryz.ntmps137
      go_wp2_with fail
      refine (HQ.out).mono ?_
      rintro e w1 ⟨rfl, har, hb⟩
      have HT1 := Lib.hid (Tabs.below HT.out (((Below.refl _ _).alloc (Nat.le_refl _) _).trans hb))
      have HB := Lib.hid (((Below.refl _ _).alloc (Nat.le_refl _) _).trans hb); clear hb
      have c4 := har.c4
      have HA := Lib.hid har; clear har
      go_wp2_with fail
      refine (string_calls _ 5 _ 2 yo _ HA.out.bu).mono ?_
      rintro e w2 ⟨rfl, hb2, hw2⟩
      have HT2 := Lib.hid (Tabs.keep HT1.out hw2.below.size fun k hk => hw2.below.block k (Nat.lt_of_lt_of_le hk HT.out.lt))
      have HA2 := Lib.hid (AR.wrote HA.out hb2 hw2)
      have HB2 := Lib.hid (HB.out.trans hw2.below); clear hb2 hw2 c4
      go_wp2_with fail
      refine (atomRight_calls _ t _ ?_ HT2.out HOK.out).mono ?_
      · have := HY.out.2.2; have := HY.out.2.1; simp [Txt.bytes, ByteArray.size]; omega
      rintro e w3 ⟨rfl, hb3⟩
      have HA3 := Lib.hid (AR.below HA2.out hb3)
      have HB3 := Lib.hid (HB2.out.trans (hb3.mono (Nat.le_of_lt HA2.out.bu.lt))); clear hb3
      cases t with
      | false =>
        go_wp2
        go_ret3
        rw [← HRES.out]
        exact ⟨rfl, HB3.out⟩
      | true =>
        go_wp2_with fail
        have c1 : w3.cell? ⟨w.heap.size, 1, none⟩ = some (.int .i64 (yp : Int)) := HA3.out.c1
        have hh : ArHeld w.heap.size s ⟨yp, yo, false⟩ w w3.drew := ⟨HA3.out.drew, HB3.out.drew⟩
        go_region_held3 (fun w' => w'.cell? ⟨w.heap.size, 1, none⟩ = some (.int .i64 (yp : Int)) ∧ ArHeld w.heap.size s ⟨yp, yo, false⟩ w w') (first | exact ⟨c1, hh⟩ | exact ⟨(‹ArHeld w.heap.size s ⟨yp, yo, false⟩ w _›).a.c1, by assumption⟩) (first | (go_at_call 83; have hz := (by assumption : _ ∧ ArHeld w.heap.size s ⟨yp, yo, false⟩ w _).2; refine (string_calls _ 5 _ 2 yo _ hz.a.bu).mono ?_; rintro e w' ⟨rfl, hb', hw'⟩; have hz' : ArHeld w.heap.size s ⟨yp, yo, false⟩ w w' := ⟨AR.wrote hz.a hb' hw', hz.m.trans hw'.below⟩; clear hz hb' hw'))
        all_goals
          go_wp2
          go_ret3
          rw [← HRES.out]
          exact ⟨rfl, (by assumption : _ ∧ ArHeld w.heap.size s ⟨yp, yo, false⟩ w _).2.m⟩

set_option maxHeartbeats 1000000 in
set_option maxRecDepth 100000 in
theorem bare_end (s : ByteArray) (p q : Nat) (w : World) (hs : s.size ≤ 68719476736) (hq1 : p ≤ q) (hq2 : q ≤ s.size) (hrc : Calls Tryz.prog 192 #[.string s, .int .i64 (p : Int)] w fun e w' => e = .returned (.int .i64 (q : Int)) ∧ ∃ n, w' = w.drewN n) (hqp : q = p) (hge : p = s.size) :
    Calls Tryz.prog 137 #[.string s, .int .i64 (p : Int)] w (ScanR w (.bad 70 p)) := by
  have HRC := Lib.hid hrc; clear hrc
  have hp0 : decide ((p : Int) < 0) = false := by simp
  have hp1 : decide ((s.size : Int) < (p : Int)) = false := by simp; omega
  have hge' : decide ((p : Int) < (s.size : Int)) = false := by simp; omega
  have hge2 : s.size ≤ p := by omega
  clear hge
  have eqp : ((q : Int) == (p : Int)) = true := by rw [hqp]; simp
  clear hqp
  go_enter Tryz.func137, Tryz.ntmps137
  go_wp2_with fail
  refine (HRC.out).mono ?_
  rintro e w1 ⟨rfl, nn, rfl⟩
  go_wp2
  go_ret3
  exact ⟨rfl, below_drewN (Below.refl _ _) _⟩
set_option maxHeartbeats 1000000 in
set_option maxRecDepth 100000 in
theorem bare_same (s : ByteArray) (p q : Nat) (w : World) (hs : s.size ≤ 68719476736) (hq1 : p ≤ q) (hq2 : q ≤ s.size) (hrc : Calls Tryz.prog 192 #[.string s, .int .i64 (p : Int)] w fun e w' => e = .returned (.int .i64 (q : Int)) ∧ ∃ n, w' = w.drewN n) (hqp : q = p) (hlt : p < s.size) (h39 : ((s[p].toNat : Int) == 39) = false) :
    Calls Tryz.prog 137 #[.string s, .int .i64 (p : Int)] w (ScanR w (.bad 70 p)) := by
  have HRC := Lib.hid hrc; clear hrc
  have hp0 : decide ((p : Int) < 0) = false := by simp
  have hp1 : decide ((s.size : Int) < (p : Int)) = false := by simp; omega
  have eqp : ((q : Int) == (p : Int)) = true := by rw [hqp]; simp
  clear hqp
  go_enter Tryz.func137, Tryz.ntmps137
  go_wp2_with fail
  refine (HRC.out).mono ?_
  rintro e w1 ⟨rfl, nn, rfl⟩
  go_wp2
  go_ret3
  exact ⟨rfl, below_drewN (Below.refl _ _) _⟩
set_option maxHeartbeats 1000000 in
set_option maxRecDepth 100000 in
theorem bare_word (s : ByteArray) (p q : Nat) (w : World) (hs : s.size ≤ 68719476736) (hq1 : p ≤ q) (hq2 : q ≤ s.size) (hrc : Calls Tryz.prog 192 #[.string s, .int .i64 (p : Int)] w fun e w' => e = .returned (.int .i64 (q : Int)) ∧ ∃ n, w' = w.drewN n) (hqp : q ≠ p) (hlt : p < s.size) (h39 : ((s[p].toNat : Int) == 39) = false) (hrs : ∀ w, Calls Tryz.prog 193 #[.string (s.extract p q)] w fun e w' => e = .returned (.bool true) ∧ w' = w) :
    Calls Tryz.prog 137 #[.string s, .int .i64 (p : Int)] w (ScanR w (.bad 70 p)) := by
  have HRC := Lib.hid hrc; clear hrc
  have hp0 : decide ((p : Int) < 0) = false := by simp
  have hp1 : decide ((s.size : Int) < (p : Int)) = false := by simp; omega
  have HRS := Lib.hid hrs; clear hrs
  have eqp : ((q : Int) == (p : Int)) = false := by rw [beq_eq_false_iff_ne]; omega
  go_enter Tryz.func137, Tryz.ntmps137
  go_wp2_with fail
  refine (HRC.out).mono ?_
  rintro e w1 ⟨rfl, nn, rfl⟩
  go_wp2_with fail
  refine (HRS.out _).mono ?_
  rintro e w2 ⟨rfl, rfl⟩
  go_wp2
  go_ret3
  exact ⟨rfl, below_drewN (Below.refl _ _) _⟩
set_option maxHeartbeats 1000000 in
set_option maxRecDepth 100000 in
theorem bare_big (s : ByteArray) (p q : Nat) (w : World) (hs : s.size ≤ 68719476736) (hq1 : p ≤ q) (hq2 : q ≤ s.size) (hrc : Calls Tryz.prog 192 #[.string s, .int .i64 (p : Int)] w fun e w' => e = .returned (.int .i64 (q : Int)) ∧ ∃ n, w' = w.drewN n) (hqp : q ≠ p) (hlt : p < s.size) (h39 : ((s[p].toNat : Int) == 39) = false) (hrs : ∀ w, Calls Tryz.prog 193 #[.string (s.extract p q)] w fun e w' => e = .returned (.bool false) ∧ w' = w) (hbig : q - p > 255) :
    Calls Tryz.prog 137 #[.string s, .int .i64 (p : Int)] w (ScanR w (.bad 20 p)) := by
  have HRC := Lib.hid hrc; clear hrc
  have hp0 : decide ((p : Int) < 0) = false := by simp
  have hp1 : decide ((s.size : Int) < (p : Int)) = false := by simp; omega
  have HRS := Lib.hid hrs; clear hrs
  have eqp : ((q : Int) == (p : Int)) = false := by rw [beq_eq_false_iff_ne]; omega
  go_enter Tryz.func137, Tryz.ntmps137
  go_wp2_with fail
  refine (HRC.out).mono ?_
  rintro e w1 ⟨rfl, nn, rfl⟩
  go_wp2_with fail
  refine (HRS.out _).mono ?_
  rintro e w2 ⟨rfl, rfl⟩
  go_wp2
  go_ret3
  exact ⟨rfl, below_drewN (Below.refl _ _) _⟩
set_option maxHeartbeats 1000000 in
set_option maxRecDepth 100000 in
theorem bare_ok (s : ByteArray) (p q : Nat) (w : World) (hs : s.size ≤ 68719476736) (hq1 : p ≤ q) (hq2 : q ≤ s.size) (hrc : Calls Tryz.prog 192 #[.string s, .int .i64 (p : Int)] w fun e w' => e = .returned (.int .i64 (q : Int)) ∧ ∃ n, w' = w.drewN n) (hqp : q ≠ p) (hlt : p < s.size) (h39 : ((s[p].toNat : Int) == 39) = false) (hrs : ∀ w, Calls Tryz.prog 193 #[.string (s.extract p q)] w fun e w' => e = .returned (.bool false) ∧ w' = w) (hbig : ¬ q - p > 255) :
    Calls Tryz.prog 137 #[.string s, .int .i64 (p : Int)] w (ScanR w (.ok (s.extract p q) q)) := by
  have HRC := Lib.hid hrc; clear hrc
  have hp0 : decide ((p : Int) < 0) = false := by simp
  have hp1 : decide ((s.size : Int) < (p : Int)) = false := by simp; omega
  have HRS := Lib.hid hrs; clear hrs
  have eqp : ((q : Int) == (p : Int)) = false := by rw [beq_eq_false_iff_ne]; omega
  go_enter Tryz.func137, Tryz.ntmps137
  go_wp2_with fail
  refine (HRC.out).mono ?_
  rintro e w1 ⟨rfl, nn, rfl⟩
  go_wp2_with fail
  refine (HRS.out _).mono ?_
  rintro e w2 ⟨rfl, rfl⟩
  go_wp2
  go_ret3
  exact ⟨rfl, below_drewN (Below.refl _ _) _⟩
theorem scan_bare (s : ByteArray) (p : Nat) (w : World) (hp : p ≤ s.size) (hc : at? s p ≠ some 39) (hs : s.size ≤ 68719476736) :
    Calls Tryz.prog 137 #[.string s, .int .i64 (p : Int)] w (ScanR w (if runEnd s p = p ∨ reserved (cut s p (runEnd s p)) = true then .bad 70 p
      else if runEnd s p - p > 255 then .bad 20 p else .ok (s.extract p (runEnd s p)) (runEnd s p))) := by
  have hrc := runF_calls s p w hp (by omega)
  obtain ⟨hq1, hq2⟩ := runEnd_in (s := s) hp
  have hrs := fun w => reserved_calls (s.extract p (runEnd s p)) _ w rfl
  generalize runEnd s p = q at *
  rw [show (s.extract p q).data.toList = cut s p q from rfl] at hrs
  rcases Nat.lt_or_ge p s.size with h | h
  · have h39 : ((s[p].toNat : Int) == 39) = false := ne_byte' _ 39 (by omega) fun e => hc (by rw [at?_lt h, e]; rfl)
    by_cases hqp : q = p
    · rw [if_pos (.inl hqp)]; exact bare_same s p q w hs hq1 hq2 hrc hqp h h39
    · cases hrv : reserved (cut s p q) with
      | true => rw [if_pos (.inr rfl)]; rw [hrv] at hrs; exact bare_word s p q w hs hq1 hq2 hrc hqp h h39 hrs
      | false =>
        rw [if_neg (by rintro (h | h); exact hqp h; cases h)]
        rw [hrv] at hrs
        by_cases hbig : q - p > 255
        · rw [if_pos hbig]; exact bare_big s p q w hs hq1 hq2 hrc hqp h h39 hrs hbig
        · rw [if_neg hbig]; exact bare_ok s p q w hs hq1 hq2 hrc hqp h h39 hrs hbig
  · rw [if_pos (.inl (by omega))]; exact bare_end s p q w hs hq1 hq2 hrc (by omega) (by omega)

theorem scan_calls (s : ByteArray) (p : Nat) (w : World) (hp : p ≤ s.size) (hs : s.size ≤ 68719476736) (ht : Tabs w) :
    Calls Tryz.prog 137 #[.string s, .int .i64 (p : Int)] w (ScanR w (scan s p)) := by
  unfold scan
  by_cases hc : at? s p = some 39
  · rw [if_pos hc]
    obtain ⟨hlt, h⟩ := at?_some hc
    exact scan_quoted s p w hlt h hs ht
  · rw [if_neg hc]
    exact scan_bare s p w hp hc hs
end Go.Proofs.YtejpdfenejbjdaaGreatDoor
