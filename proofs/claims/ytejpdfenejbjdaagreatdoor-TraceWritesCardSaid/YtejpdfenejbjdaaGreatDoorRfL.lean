/- Walks: the reference: a term without parts, written. -/
import Derived.Test.YtejpdfenejbjdaaGreatDoorRfH
namespace Go.Proofs.YtejpdfenejbjdaaGreatDoor
open Go.RowKit Txt
set_option linter.unusedVariables false
set_option linter.unusedSimpArgs false

def ShowOut (w : World) (c : Cl) (k : Fo) : Ending → World → Prop := fun e w' => ∃ v, e = .returned v ∧ OwnB w.heap.size w' v (Fo.txt c k) ∧ Below w.heap.size w w'
set_option maxHeartbeats 4000000 in
set_option maxRecDepth 100000 in
theorem rshow_1 (x : Value) (c : Cl) (k : Fo) (w : World) (hx : TS w x c k) (ht : Tabs w) (hk : c.kind = 1) : Calls Tryz.prog 84 #[x] w (ShowOut w c k) := by
  have t1 : (c.kind == 1) = true := by rw [hk]; rfl
  have htx : Fo.txt c k = Lib.itoa c.n := by unfold Fo.txt leaf; rw [hk]; simp
  unfold ShowOut; rw [htx]; clear htx
  obtain ⟨f0, f1⟩ := hx.fits c (by simp)
  have hcell := cell_ok hx.cell
  have hlf := leaf_len hx.cell (hx.fits c (by simp)) (by omega)
  unfold leaf at hlf; rw [hk] at hlf; simp at hlf
  obtain ⟨ad, n, cap, rfl, -, hcap, hblk, c0, c1, c2⟩ := hx.at
  have hz : ((0 : Int) < (n : Int) + 1) := by omega
  have hit := Lib.itoa_length_le c.n f0 f1
  have HF0 := Lib.hid f0; clear f0
  have HF1 := Lib.hid f1; clear f1
  have HLF := Lib.hid hlf; clear hlf
  have HCE := Lib.hid hcell; clear hcell
  have HK := Lib.hid hk; clear hk hx
  have HT := Lib.hid ht; clear ht
  obtain ⟨i0, hi, hz0, hz1, hz2⟩ := info_parts info_u8
  have HB := Lib.hid (BX.start w (.cells #[.int .i64 c.kind, .int .i64 c.n, .string c.text] 74))
  have HO := Lib.hid (OwnB.nil (w.heap.size + 1) (w.alloc (.cells #[.int .i64 c.kind, .int .i64 c.n, .string c.text] 74)))
  go_enter Tryz.func84, Tryz.ntmps84
  obtain ⟨-, bn2, bt2⟩ := HB.out.cell
  go_wp2_with fail
  refine (append_int HB.out HT.out c.n HO.out HF0.out HF1.out (by simp)).mono ?_
  rintro e1 x1 ⟨v1, rfl, ho1, hb1⟩
  have HO1 := Lib.hid ho1
  have HB1 := Lib.hid hb1
  clear ho1 hb1
  obtain ⟨A1, n101, c101, rfl⟩ := own_sliceL HO1.out
  go_wp2
  go_ret
  exact ⟨_, rfl, by have := HO1.out.mono (Nat.le_succ _); simpa using this, HB1.out.be⟩

set_option maxHeartbeats 4000000 in
set_option maxRecDepth 100000 in
theorem rshow_2 (x : Value) (c : Cl) (k : Fo) (w : World) (hx : TS w x c k) (ht : Tabs w) (hk : c.kind = 2) : Calls Tryz.prog 84 #[x] w (ShowOut w c k) := by
  have t1 : (c.kind == 1) = false := by rw [hk]; rfl
  have t2 : (c.kind == 2) = true := by rw [hk]; rfl
  have htx : Fo.txt c k = (quote c.text).1 := by unfold Fo.txt leaf; rw [hk]; simp
  unfold ShowOut; rw [htx]; clear htx
  obtain ⟨f0, f1⟩ := hx.fits c (by simp)
  have hcell := cell_ok hx.cell
  have hlf := leaf_len hx.cell (hx.fits c (by simp)) (by omega)
  unfold leaf at hlf; rw [hk] at hlf; simp at hlf
  obtain ⟨ad, n, cap, rfl, -, hcap, hblk, c0, c1, c2⟩ := hx.at
  have hz : ((0 : Int) < (n : Int) + 1) := by omega
  have hit := Lib.itoa_length_le c.n f0 f1
  have HF0 := Lib.hid f0; clear f0
  have HF1 := Lib.hid f1; clear f1
  have HLF := Lib.hid hlf; clear hlf
  have HCE := Lib.hid hcell; clear hcell
  have HK := Lib.hid hk; clear hk hx
  have HT := Lib.hid ht; clear ht
  obtain ⟨i0, hi, hz0, hz1, hz2⟩ := info_parts info_u8
  have HB := Lib.hid (BX.start w (.cells #[.int .i64 c.kind, .int .i64 c.n, .string c.text] 74))
  have HO := Lib.hid (OwnB.nil (w.heap.size + 1) (w.alloc (.cells #[.int .i64 c.kind, .int .i64 c.n, .string c.text] 74)))
  go_enter Tryz.func84, Tryz.ntmps84
  have hqc := fun W => r2quote_calls c.text W (by have := HCE.out.2.2.2.2.2.2.2.1 HK.out; omega)
  obtain ⟨D, hD⟩ : ∃ D : ByteArray, Txt.bytes (quote c.text).1 = D := ⟨_, rfl⟩
  have hDl : (quote c.text).1 = D.data.toList := by rw [← hD]; rfl
  have hDz : D.size ≤ 4200 := by rw [← hD, bytes_size]; exact HLF.out
  simp only [hD] at hqc
  rw [hDl]; clear hD hDl
  have HQ := Lib.hid hqc; clear hqc
  go_wp2_with fail
  refine (HQ.out _).mono ?_
  rintro e w1 ⟨rfl, hb1⟩
  have HB1 := Lib.hid (HB.out.after hb1)
  have HO1 := Lib.hid (OwnB.nil (w.heap.size + 1) w1); clear hb1
  have hge3 := Lib.hid HO1.out.own_ge
  go_wp2_with (at_builtin; refine Lib.wpList_append_own_string _ rfl _ _ 91 9 rfl (w.heap.size + 1) 5 i0 Tryz.underlying91 Tryz.underlying9 hi hz0 hz1 hz2 _ _ _ rfl HO1.out D rfl ?a3 ?b3 ?c3 ?_)
  case a3 => unfold maxLen; (try simp only [List.length_append, List.length_cons, List.length_nil]) <;> first | omega | (simp; done) | (simp; omega) | (simp [ByteArray.size]; done) | (simp [ByteArray.size]; omega)
  case b3 => (try simp only [List.length_append, List.length_cons, List.length_nil]) <;> first | omega | (simp; done) | (simp; omega) | (simp [ByteArray.size]; done) | (simp [ByteArray.size]; omega)
  case c3 => exact HB1.out.size
  intro v3 x3 hown hgrow _
  have HO2 : Hid (OwnB (w.heap.size + 1) x3 v3 ([] ++ D.data.toList)) := Lib.hid (OwnB.appendS (t := []) (s := D) (by first | exact hown | simpa using hown | simpa [ByteArray.size] using hown) rfl)
  have HB2 := Lib.hid (HB1.out.grown hgrow hge3.out)
  clear hown hgrow hge3
  go_wp2
  go_ret
  exact ⟨_, rfl, by have := HO2.out.mono (Nat.le_succ _); simpa using this, HB2.out.be⟩

set_option maxHeartbeats 4000000 in
set_option maxRecDepth 100000 in
theorem rshow_3 (x : Value) (c : Cl) (k : Fo) (w : World) (hx : TS w x c k) (ht : Tabs w) (hk : c.kind = 3) : Calls Tryz.prog 84 #[x] w (ShowOut w c k) := by
  have t1 : (c.kind == 1) = false := by rw [hk]; rfl
  have t2 : (c.kind == 2) = false := by rw [hk]; rfl
  have t3 : (c.kind == 3) = true := by rw [hk]; rfl
  have htx : Fo.txt c k = [35, 82, 101, 102, 60] ++ Lib.itoa c.n ++ [62] := by unfold Fo.txt leaf; rw [hk]; simp
  unfold ShowOut; rw [htx]; clear htx
  obtain ⟨f0, f1⟩ := hx.fits c (by simp)
  have hcell := cell_ok hx.cell
  have hlf := leaf_len hx.cell (hx.fits c (by simp)) (by omega)
  unfold leaf at hlf; rw [hk] at hlf; simp at hlf
  obtain ⟨ad, n, cap, rfl, -, hcap, hblk, c0, c1, c2⟩ := hx.at
  have hz : ((0 : Int) < (n : Int) + 1) := by omega
  have hit := Lib.itoa_length_le c.n f0 f1
  have HF0 := Lib.hid f0; clear f0
  have HF1 := Lib.hid f1; clear f1
  have HLF := Lib.hid hlf; clear hlf
  have HCE := Lib.hid hcell; clear hcell
  have HK := Lib.hid hk; clear hk hx
  have HT := Lib.hid ht; clear ht
  obtain ⟨i0, hi, hz0, hz1, hz2⟩ := info_parts info_u8
  have HB := Lib.hid (BX.start w (.cells #[.int .i64 c.kind, .int .i64 c.n, .string c.text] 74))
  have HO := Lib.hid (OwnB.nil (w.heap.size + 1) (w.alloc (.cells #[.int .i64 c.kind, .int .i64 c.n, .string c.text] 74)))
  go_enter Tryz.func84, Tryz.ntmps84
  have hge4 := Lib.hid HO.out.own_ge
  go_wp2_with (at_builtin; refine Lib.wpList_append_own_string _ rfl _ _ 91 9 rfl (w.heap.size + 1) 5 i0 Tryz.underlying91 Tryz.underlying9 hi hz0 hz1 hz2 _ _ _ rfl HO.out ⟨#[35, 82, 101, 102, 60]⟩ rfl ?a4 ?b4 ?c4 ?_)
  case a4 => unfold maxLen; (try simp only [List.length_append, List.length_cons, List.length_nil]) <;> first | omega | (simp; done) | (simp; omega) | (simp [ByteArray.size]; done) | (simp [ByteArray.size]; omega)
  case b4 => (try simp only [List.length_append, List.length_cons, List.length_nil]) <;> first | omega | (simp; done) | (simp; omega) | (simp [ByteArray.size]; done) | (simp [ByteArray.size]; omega)
  case c4 => exact HB.out.size
  intro v4 x4 hown hgrow _
  have HO1 : Hid (OwnB (w.heap.size + 1) x4 v4 ([] ++ [35, 82, 101, 102, 60])) := Lib.hid (OwnB.appendS (t := []) (s := ⟨#[35, 82, 101, 102, 60]⟩) (by first | exact hown | simpa using hown | simpa [ByteArray.size] using hown) rfl)
  have HB1 := Lib.hid (HB.out.grown hgrow hge4.out)
  clear hown hgrow hge4
  obtain ⟨A5, n105, c105, rfl⟩ := own_sliceL HO1.out
  obtain ⟨-, bn7, bt7⟩ := HB1.out.cell
  go_wp2_with fail
  refine (append_int HB1.out HT.out c.n HO1.out HF0.out HF1.out (by simp)).mono ?_
  rintro e6 x6 ⟨v6, rfl, ho6, hb6⟩
  have HO2 := Lib.hid ho6
  have HB2 := Lib.hid hb6
  clear ho6 hb6
  obtain ⟨A6, n106, c106, rfl⟩ := own_sliceL HO2.out
  have hge8 := Lib.hid HO2.out.own_ge
  go_wp2_with (at_builtin; refine wpList_append_own _ rfl _ _ 91 rfl (w.heap.size + 1) 5 i0 (.int .u8 0) 1 1 Tryz.underlying91 hi hz0 hz1 hz2 rfl (by decide) _ _ _ rfl (World.ownsRow.alloc HO2.out _) ⟨_, 0, none⟩ 1 1 (Lib.byteCells [62]) rfl rfl ?a8 (byteCells_oneCell _) ?b8 ?c8 ?d8 ?_)
  case a8 => exact new_list _ (Lib.byteCells [62]) _ _ (by first | rfl | simp)
  case b8 => unfold maxLen; (try simp only [List.length_append, List.length_cons, List.length_nil]); omega
  case c8 => (try simp only [List.length_append, List.length_cons, List.length_nil]); omega
  case d8 => have := HB2.out.size; simp at this ⊢ <;> omega
  intro v8 x8 hown hgrow _
  have HO3 : Hid (OwnB (w.heap.size + 1) x8 v8 (([] ++ [35, 82, 101, 102, 60] ++ Lib.itoa c.n) ++ [62])) := Lib.hid (by first | exact OwnB.appended (u := [62]) hown (by simp) | (have h2 := OwnB.appended (u := [62]) hown (by simp <;> omega); simpa using h2))
  have HB3 := Lib.hid ((HB2.out.alloc _).grown hgrow hge8.out)
  clear hown hgrow hge8
  go_wp2
  go_ret
  exact ⟨_, rfl, by have := HO3.out.mono (Nat.le_succ _); simpa using this, HB3.out.be⟩

set_option maxHeartbeats 4000000 in
set_option maxRecDepth 100000 in
theorem rshow_4 (x : Value) (c : Cl) (k : Fo) (w : World) (hx : TS w x c k) (ht : Tabs w) (hk : c.kind = 4) : Calls Tryz.prog 84 #[x] w (ShowOut w c k) := by
  have t1 : (c.kind == 1) = false := by rw [hk]; rfl
  have t2 : (c.kind == 2) = false := by rw [hk]; rfl
  have t3 : (c.kind == 3) = false := by rw [hk]; rfl
  have t4 : (c.kind == 4) = true := by rw [hk]; rfl
  have htx : Fo.txt c k = [60] ++ Lib.itoa c.n ++ [62] := by unfold Fo.txt leaf; rw [hk]; simp
  unfold ShowOut; rw [htx]; clear htx
  obtain ⟨f0, f1⟩ := hx.fits c (by simp)
  have hcell := cell_ok hx.cell
  have hlf := leaf_len hx.cell (hx.fits c (by simp)) (by omega)
  unfold leaf at hlf; rw [hk] at hlf; simp at hlf
  obtain ⟨ad, n, cap, rfl, -, hcap, hblk, c0, c1, c2⟩ := hx.at
  have hz : ((0 : Int) < (n : Int) + 1) := by omega
  have hit := Lib.itoa_length_le c.n f0 f1
  have HF0 := Lib.hid f0; clear f0
  have HF1 := Lib.hid f1; clear f1
  have HLF := Lib.hid hlf; clear hlf
  have HCE := Lib.hid hcell; clear hcell
  have HK := Lib.hid hk; clear hk hx
  have HT := Lib.hid ht; clear ht
  obtain ⟨i0, hi, hz0, hz1, hz2⟩ := info_parts info_u8
  have HB := Lib.hid (BX.start w (.cells #[.int .i64 c.kind, .int .i64 c.n, .string c.text] 74))
  have HO := Lib.hid (OwnB.nil (w.heap.size + 1) (w.alloc (.cells #[.int .i64 c.kind, .int .i64 c.n, .string c.text] 74)))
  go_enter Tryz.func84, Tryz.ntmps84
  have hge9 := Lib.hid HO.out.own_ge
  go_wp2_with (at_builtin; refine wpList_append_own _ rfl _ _ 91 rfl (w.heap.size + 1) 5 i0 (.int .u8 0) 1 1 Tryz.underlying91 hi hz0 hz1 hz2 rfl (by decide) _ _ _ rfl (World.ownsRow.alloc HO.out _) ⟨_, 0, none⟩ 1 1 (Lib.byteCells [60]) rfl rfl ?a9 (byteCells_oneCell _) ?b9 ?c9 ?d9 ?_)
  case a9 => exact new_list _ (Lib.byteCells [60]) _ _ (by first | rfl | simp)
  case b9 => unfold maxLen; (try simp only [List.length_append, List.length_cons, List.length_nil]); omega
  case c9 => (try simp only [List.length_append, List.length_cons, List.length_nil]); omega
  case d9 => have := HB.out.size; simp at this ⊢ <;> omega
  intro v9 x9 hown hgrow _
  have HO1 : Hid (OwnB (w.heap.size + 1) x9 v9 ([] ++ [60])) := Lib.hid (by first | exact OwnB.appended (u := [60]) hown (by simp) | (have h2 := OwnB.appended (u := [60]) hown (by simp <;> omega); simpa using h2))
  have HB1 := Lib.hid ((HB.out.alloc _).grown hgrow hge9.out)
  clear hown hgrow hge9
  obtain ⟨A10, n110, c110, rfl⟩ := own_sliceL HO1.out
  obtain ⟨-, bn12, bt12⟩ := HB1.out.cell
  go_wp2_with fail
  refine (append_int HB1.out HT.out c.n HO1.out HF0.out HF1.out (by simp)).mono ?_
  rintro e11 x11 ⟨v11, rfl, ho11, hb11⟩
  have HO2 := Lib.hid ho11
  have HB2 := Lib.hid hb11
  clear ho11 hb11
  obtain ⟨A11, n111, c111, rfl⟩ := own_sliceL HO2.out
  have hge13 := Lib.hid HO2.out.own_ge
  go_wp2_with (at_builtin; refine wpList_append_own _ rfl _ _ 91 rfl (w.heap.size + 1) 5 i0 (.int .u8 0) 1 1 Tryz.underlying91 hi hz0 hz1 hz2 rfl (by decide) _ _ _ rfl (World.ownsRow.alloc HO2.out _) ⟨_, 0, none⟩ 1 1 (Lib.byteCells [62]) rfl rfl ?a13 (byteCells_oneCell _) ?b13 ?c13 ?d13 ?_)
  case a13 => exact new_list _ (Lib.byteCells [62]) _ _ (by first | rfl | simp)
  case b13 => unfold maxLen; (try simp only [List.length_append, List.length_cons, List.length_nil]); omega
  case c13 => (try simp only [List.length_append, List.length_cons, List.length_nil]); omega
  case d13 => have := HB2.out.size; simp at this ⊢ <;> omega
  intro v13 x13 hown hgrow _
  have HO3 : Hid (OwnB (w.heap.size + 1) x13 v13 (([] ++ [60] ++ Lib.itoa c.n) ++ [62])) := Lib.hid (by first | exact OwnB.appended (u := [62]) hown (by simp) | (have h2 := OwnB.appended (u := [62]) hown (by simp <;> omega); simpa using h2))
  have HB3 := Lib.hid ((HB2.out.alloc _).grown hgrow hge13.out)
  clear hown hgrow hge13
  go_wp2
  go_ret
  exact ⟨_, rfl, by have := HO3.out.mono (Nat.le_succ _); simpa using this, HB3.out.be⟩

set_option maxHeartbeats 4000000 in
set_option maxRecDepth 100000 in
theorem rshow_6 (x : Value) (c : Cl) (k : Fo) (w : World) (hx : TS w x c k) (ht : Tabs w) (hk : c.kind = 6) : Calls Tryz.prog 84 #[x] w (ShowOut w c k) := by
  have t1 : (c.kind == 1) = false := by rw [hk]; rfl
  have t2 : (c.kind == 2) = false := by rw [hk]; rfl
  have t3 : (c.kind == 3) = false := by rw [hk]; rfl
  have t4 : (c.kind == 4) = false := by rw [hk]; rfl
  have t6 : (c.kind == 6) = true := by rw [hk]; rfl
  have htx : Fo.txt c k = [91, 93] := by unfold Fo.txt leaf; rw [hk]; simp
  unfold ShowOut; rw [htx]; clear htx
  obtain ⟨f0, f1⟩ := hx.fits c (by simp)
  have hcell := cell_ok hx.cell
  have hlf := leaf_len hx.cell (hx.fits c (by simp)) (by omega)
  unfold leaf at hlf; rw [hk] at hlf; simp at hlf
  obtain ⟨ad, n, cap, rfl, -, hcap, hblk, c0, c1, c2⟩ := hx.at
  have hz : ((0 : Int) < (n : Int) + 1) := by omega
  have hit := Lib.itoa_length_le c.n f0 f1
  have HF0 := Lib.hid f0; clear f0
  have HF1 := Lib.hid f1; clear f1
  have HLF := Lib.hid hlf; clear hlf
  have HCE := Lib.hid hcell; clear hcell
  have HK := Lib.hid hk; clear hk hx
  have HT := Lib.hid ht; clear ht
  obtain ⟨i0, hi, hz0, hz1, hz2⟩ := info_parts info_u8
  have HB := Lib.hid (BX.start w (.cells #[.int .i64 c.kind, .int .i64 c.n, .string c.text] 74))
  have HO := Lib.hid (OwnB.nil (w.heap.size + 1) (w.alloc (.cells #[.int .i64 c.kind, .int .i64 c.n, .string c.text] 74)))
  go_enter Tryz.func84, Tryz.ntmps84
  have hge14 := Lib.hid HO.out.own_ge
  go_wp2_with (at_builtin; refine Lib.wpList_append_own_string _ rfl _ _ 91 9 rfl (w.heap.size + 1) 5 i0 Tryz.underlying91 Tryz.underlying9 hi hz0 hz1 hz2 _ _ _ rfl HO.out ⟨#[91, 93]⟩ rfl ?a14 ?b14 ?c14 ?_)
  case a14 => unfold maxLen; (try simp only [List.length_append, List.length_cons, List.length_nil]) <;> first | omega | (simp; done) | (simp; omega) | (simp [ByteArray.size]; done) | (simp [ByteArray.size]; omega)
  case b14 => (try simp only [List.length_append, List.length_cons, List.length_nil]) <;> first | omega | (simp; done) | (simp; omega) | (simp [ByteArray.size]; done) | (simp [ByteArray.size]; omega)
  case c14 => exact HB.out.size
  intro v14 x14 hown hgrow _
  have HO1 : Hid (OwnB (w.heap.size + 1) x14 v14 ([] ++ [91, 93])) := Lib.hid (OwnB.appendS (t := []) (s := ⟨#[91, 93]⟩) (by first | exact hown | simpa using hown | simpa [ByteArray.size] using hown) rfl)
  have HB1 := Lib.hid (HB.out.grown hgrow hge14.out)
  clear hown hgrow hge14
  go_wp2
  go_ret
  exact ⟨_, rfl, by have := HO1.out.mono (Nat.le_succ _); simpa using this, HB1.out.be⟩

set_option maxHeartbeats 4000000 in
set_option maxRecDepth 100000 in
theorem rshow_8 (x : Value) (c : Cl) (k : Fo) (w : World) (hx : TS w x c k) (ht : Tabs w) (hk : c.kind = 8) : Calls Tryz.prog 84 #[x] w (ShowOut w c k) := by
  have t1 : (c.kind == 1) = false := by rw [hk]; rfl
  have t2 : (c.kind == 2) = false := by rw [hk]; rfl
  have t3 : (c.kind == 3) = false := by rw [hk]; rfl
  have t4 : (c.kind == 4) = false := by rw [hk]; rfl
  have t6 : (c.kind == 6) = false := by rw [hk]; rfl
  have t8 : (c.kind == 8) = true := by rw [hk]; rfl
  have htx : Fo.txt c k = shown c.text.data.toList := by unfold Fo.txt leaf; rw [hk]; simp
  unfold ShowOut; rw [htx]; clear htx
  obtain ⟨f0, f1⟩ := hx.fits c (by simp)
  have hcell := cell_ok hx.cell
  have hlf := leaf_len hx.cell (hx.fits c (by simp)) (by omega)
  unfold leaf at hlf; rw [hk] at hlf; simp at hlf
  obtain ⟨ad, n, cap, rfl, -, hcap, hblk, c0, c1, c2⟩ := hx.at
  have hz : ((0 : Int) < (n : Int) + 1) := by omega
  have hit := Lib.itoa_length_le c.n f0 f1
  have HF0 := Lib.hid f0; clear f0
  have HF1 := Lib.hid f1; clear f1
  have HLF := Lib.hid hlf; clear hlf
  have HCE := Lib.hid hcell; clear hcell
  have HK := Lib.hid hk; clear hk hx
  have HT := Lib.hid ht; clear ht
  obtain ⟨i0, hi, hz0, hz1, hz2⟩ := info_parts info_u8
  have HB := Lib.hid (BX.start w (.cells #[.int .i64 c.kind, .int .i64 c.n, .string c.text] 74))
  have HO := Lib.hid (OwnB.nil (w.heap.size + 1) (w.alloc (.cells #[.int .i64 c.kind, .int .i64 c.n, .string c.text] 74)))
  go_enter Tryz.func84, Tryz.ntmps84
  have hqc := fun W => r7binary_calls c.text W (HCE.out.2.2.2.2.2.2.2.2 HK.out)
  obtain ⟨D, hD⟩ : ∃ D : ByteArray, Txt.bytes (shown c.text.data.toList) = D := ⟨_, rfl⟩
  have hDl : (shown c.text.data.toList) = D.data.toList := by rw [← hD]; rfl
  have hDz : D.size ≤ 4200 := by rw [← hD, bytes_size]; exact HLF.out
  simp only [hD] at hqc
  rw [hDl]; clear hD hDl
  have HQ := Lib.hid hqc; clear hqc
  go_wp2_with fail
  refine (HQ.out _ (HT.out.below HB.out.be)).mono ?_
  rintro e w1 ⟨rfl, hb1⟩
  have HB1 := Lib.hid (HB.out.after hb1)
  have HO1 := Lib.hid (OwnB.nil (w.heap.size + 1) w1); clear hb1
  have hge15 := Lib.hid HO1.out.own_ge
  go_wp2_with (at_builtin; refine Lib.wpList_append_own_string _ rfl _ _ 91 9 rfl (w.heap.size + 1) 5 i0 Tryz.underlying91 Tryz.underlying9 hi hz0 hz1 hz2 _ _ _ rfl HO1.out D rfl ?a15 ?b15 ?c15 ?_)
  case a15 => unfold maxLen; (try simp only [List.length_append, List.length_cons, List.length_nil]) <;> first | omega | (simp; done) | (simp; omega) | (simp [ByteArray.size]; done) | (simp [ByteArray.size]; omega)
  case b15 => (try simp only [List.length_append, List.length_cons, List.length_nil]) <;> first | omega | (simp; done) | (simp; omega) | (simp [ByteArray.size]; done) | (simp [ByteArray.size]; omega)
  case c15 => exact HB1.out.size
  intro v15 x15 hown hgrow _
  have HO2 : Hid (OwnB (w.heap.size + 1) x15 v15 ([] ++ D.data.toList)) := Lib.hid (OwnB.appendS (t := []) (s := D) (by first | exact hown | simpa using hown | simpa [ByteArray.size] using hown) rfl)
  have HB2 := Lib.hid (HB1.out.grown hgrow hge15.out)
  clear hown hgrow hge15
  go_wp2
  go_ret
  exact ⟨_, rfl, by have := HO2.out.mono (Nat.le_succ _); simpa using this, HB2.out.be⟩

end Go.Proofs.YtejpdfenejbjdaaGreatDoor

namespace Go.Proofs.YtejpdfenejbjdaaGreatDoor
open Go.RowKit Txt
set_option linter.unusedVariables false
set_option linter.unusedSimpArgs false

theorem tailT_nil (j : Nat) : tailT j .nil = [] := by unfold tailT; simp [Fo.sh, Fo.len]
theorem txt_5 {c : Cl} {k : Fo} (hc : cellE c = 0) (hl : k.len = Txt.kids c) (hk : c.kind = 5) : Fo.txt c k = [123] ++ k.sh 0 ++ [125] := by
  have hb := (cell_ok hc).2.2.2.2.2.2.1 hk
  unfold Fo.txt
  rw [if_neg (by omega)]
  by_cases h : c.n > 0
  · rw [if_pos ⟨hk, h⟩]; simp
  · rw [if_neg (fun x => h x.2)]
    rw [kids_5 hk hb.1 hb.2] at hl
    cases k with
    | nil => unfold leaf; rw [hk]; rfl
    | node _ _ _ => simp [Fo.len] at hl; omega
set_option maxHeartbeats 8000000 in
set_option maxRecDepth 100000 in
theorem rshow_5 (x : Value) (c : Cl) (k : Fo) (w : World) (hx : TS w x c k) (ht : Tabs w) (hk : c.kind = 5)
    (IH : ∀ (x' : Value) (a : Cl) (ka : Fo) (w' : World), TS w' x' a ka → Tabs w' → (a :: ka.flat).length < (c :: k.flat).length → Calls Tryz.prog 84 #[x'] w' (ShowOut w' a ka)) :
    Calls Tryz.prog 84 #[x] w (ShowOut w c k) := by
  have t1 : (c.kind == 1) = false := by rw [hk]; rfl
  have t2 : (c.kind == 2) = false := by rw [hk]; rfl
  have t3 : (c.kind == 3) = false := by rw [hk]; rfl
  have t4 : (c.kind == 4) = false := by rw [hk]; rfl
  have t6 : (c.kind == 6) = false := by rw [hk]; rfl
  have t8 : (c.kind == 8) = false := by rw [hk]; rfl
  have t5 : (c.kind == 5) = true := by rw [hk]; rfl
  have hsl := hx.sh_len 0 (by omega)
  have hkl : k.len ≤ 255 := by rw [hx.len]; exact kids_le c
  unfold ShowOut; rw [txt_5 hx.cell hx.len hk]
  have HX := Lib.hid hx
  have HIH := Lib.hid IH; clear IH
  obtain ⟨ad, n, cap, rfl, -, hcap, hblk, c0, c1, c2⟩ := hx.at
  have hz : ((0 : Int) < (n : Int) + 1) := by omega
  have HK := Lib.hid hk; clear hk hx
  have HT := Lib.hid ht; clear ht
  have HSL := Lib.hid hsl; clear hsl
  obtain ⟨i0, hi, hz0, hz1, hz2⟩ := info_parts info_u8
  have HB := Lib.hid (BX.start w (.cells #[.int .i64 c.kind, .int .i64 c.n, .string c.text] 74))
  have HO := Lib.hid (OwnB.nil (w.heap.size + 1) (w.alloc (.cells #[.int .i64 c.kind, .int .i64 c.n, .string c.text] 74)))
  go_enter Tryz.func84, Tryz.ntmps84
  have hge1 := Lib.hid HO.out.own_ge
  go_wp2_with (at_builtin; refine wpList_append_own _ rfl _ _ 91 rfl (w.heap.size + 1) 5 i0 (.int .u8 0) 1 1 Tryz.underlying91 hi hz0 hz1 hz2 rfl (by decide) _ _ _ rfl (World.ownsRow.alloc HO.out _) ⟨_, 0, none⟩ 1 1 (Lib.byteCells [123]) rfl rfl ?a1 (byteCells_oneCell _) ?b1 ?c1 ?d1 ?_)
  case a1 => exact new_list _ (Lib.byteCells [123]) _ _ (by first | rfl | simp)
  case b1 => unfold maxLen; (try simp only [List.length_append, List.length_cons, List.length_nil]); omega
  case c1 => (try simp only [List.length_append, List.length_cons, List.length_nil]); omega
  case d1 => have := HB.out.size; simp at this ⊢ <;> omega
  intro v1 x1 hown hgrow _
  have HO1 : Hid (OwnB (w.heap.size + 1) x1 v1 ([] ++ [123])) := Lib.hid (by first | exact OwnB.appended (u := [123]) hown (by simp) | (have h2 := OwnB.appended (u := [123]) hown (by simp <;> omega); simpa using h2))
  have HB1 := Lib.hid ((HB.out.alloc _).grown hgrow hge1.out)
  clear hown hgrow hge1
  obtain ⟨A2, n102, c102, rfl⟩ := own_sliceL HO1.out
  have hpc := (HX.out.below HB1.out.be).parts
  have HPC := Lib.hid hpc; clear hpc c0 c1 c2
  go_wp2_with fail
  refine HPC.out.mono ?_
  rintro e w2 ⟨lv, rfl, hs, hb2⟩
  have HO2 := Lib.hid (HO1.out.below hb2)
  have HB2 := Lib.hid (HB1.out.after hb2)
  have HS2 := Lib.hid hs
  clear HO1 HB1 HO HB HPC hb2
  obtain ⟨LA, lcap, rfl, hlc⟩ : ∃ A cap, lv = .slice A k.len cap ∧ k.len ≤ cap := by
    obtain ⟨A, cap, h1, h2, -⟩ := hs
    rw [items_len] at h1 h2; exact ⟨A, cap, h1, h2⟩
  clear hs
  go_wp2_with fail
  go_loopw [3, 8] (fun b i wr => ∃ (dn : List (List Cl)) (r : Fo) (pre : List UInt8), i = .int .i64 (dn.length : Int) ∧ Hid (k.items = dn ++ r.items) ∧ Hid r.ok ∧ Hid (OwnB (w.heap.size + 1) wr b ([123] ++ pre)) ∧ Hid (pre ++ tailT dn.length r = k.sh 0)
      ∧ Hid (BX w (.cells #[.int .i64 c.kind, .int .i64 c.n, .string c.text] 74) wr) ∧ Hid (SeesTL (fun W => SeesT W (.slice (some ad) (n + 1) cap) (c :: k.flat)) wr (.slice LA k.len lcap) k.items)) (fun _ i _ => k.len - (intOf i).toNat)
  case atStart => exact ⟨[], k, [], rfl, Lib.hid rfl, Lib.hid HX.out.ok, HO2, Lib.hid (by simp [tailT]), HB2, HS2⟩
  case round =>
    obtain ⟨dn, r, pre, rfl, HI, HR, HO, HP, HB, HS⟩ := hrel
    clear HO2 HB2 HS2
    have hpl : pre.length ≤ 4300800 := by
      have := congrArg List.length HP.out
      have := HSL.out
      rw [List.length_append] at *; omega
    obtain ⟨A0, n0, cc0, rfl⟩ := own_sliceL HO.out
    cases r with
    | nil =>
      have hd : dn.length = k.len := by
        have := congrArg List.length HI.out
        rw [items_len, List.length_append] at this; simpa [Txt.Fo.items] using this.symm
      have hp : pre = k.sh 0 := by have := HP.out; rw [tailT_nil, List.append_nil] at this; exact this
      have HPR := Lib.hid hp
      have t0 : decide ((dn.length : Int) < (k.len : Int)) = false := decide_eq_false (by omega)
      have t0' : decide (dn.length < k.len) = false := decide_eq_false (by omega)
      clear hp hd
      have hge3 := Lib.hid HO.out.own_ge
      go_wp2_with (at_builtin; refine wpList_append_own _ rfl _ _ 91 rfl (w.heap.size + 1) 5 i0 (.int .u8 0) 1 1 Tryz.underlying91 hi hz0 hz1 hz2 rfl (by decide) _ _ _ rfl (World.ownsRow.alloc HO.out _) ⟨_, 0, none⟩ 1 1 (Lib.byteCells [125]) rfl rfl ?a3 (byteCells_oneCell _) ?b3 ?c3 ?d3 ?_)
      case a3 => exact new_list _ (Lib.byteCells [125]) _ _ (by first | rfl | simp)
      case b3 => unfold maxLen; (try simp only [List.length_append, List.length_cons, List.length_nil]); omega
      case c3 => (try simp only [List.length_append, List.length_cons, List.length_nil]); omega
      case d3 => have := HB.out.size; simp at this ⊢ <;> omega
      intro v3 x3 hown hgrow _
      have HO3 : Hid (OwnB (w.heap.size + 1) x3 v3 (([123] ++ pre) ++ [125])) := Lib.hid (by first | exact OwnB.appended (u := [125]) hown (by simp) | (have h2 := OwnB.appended (u := [125]) hown (by simp <;> omega); simpa using h2))
      have HB3 := Lib.hid ((HB.out.alloc _).grown hgrow hge3.out)
      clear hown hgrow hge3
      go_wp2
      go_ret
      exact ⟨_, rfl, by have := HO3.out.mono (Nat.le_succ _); rw [HPR.out] at this; exact this, HB3.out.be⟩
    | node a ka r' =>
      have hlt : dn.length < k.len := by
        have := congrArg List.length HI.out
        rw [items_len, List.length_append, items_len] at this; simp only [Fo.len] at this; omega
      have t0 : decide ((dn.length : Int) < (k.len : Int)) = true := decide_eq_true (by omega)
      have t0' : decide (dn.length < k.len) = true := decide_eq_true hlt
      have hlti : ((dn.length : Int) < (k.len : Int)) := by omega
      by_cases hj : dn.length = 0
      · have hpe := tailT_node dn.length a ka r'
        rw [if_pos hj] at hpe
        obtain ⟨g, lcap2, u, hle, hlc2, -, hg, hu, tsa, hsz⟩ := HX.out.item HS.out HI.out HR.out
        simp only [Value.slice.injEq, true_and] at hle
        obtain ⟨rfl, rfl⟩ := hle
        obtain ⟨ad2, n2, cap2, rfl, -⟩ := tsa.at
        have HTS := Lib.hid tsa; clear tsa
        have HSZ := Lib.hid hsz; clear hsz
        have htl := HTS.out.txt_len
        obtain ⟨T, hT⟩ : ∃ T, Fo.txt a ka = T := ⟨_, rfl⟩
        rw [hT] at htl hpe
        have HPE := Lib.hid hpe; clear hpe
        have hTne : T ≠ [] := by rw [← hT]; exact txt_ne HTS.out.cell
        have HTN := Lib.hid hTne
        have HTT := Lib.hid hT; clear hT hTne
        have t1 : decide ((0 : Int) < (dn.length : Int)) = false := decide_eq_false (by omega)
        have t1' : decide (0 < dn.length) = false := decide_eq_false (by omega)
        have HJ := Lib.hid hj; clear hj
        have hic := HIH.out (.slice (some ad2) (n2 + 1) cap2) a ka _ (HTS.out.below HB.out.be) (HT.out.below HB.out.be) HSZ.out
        unfold ShowOut at hic; rw [HTT.out] at hic
        have HIC := Lib.hid hic; clear hic
        go_wp2_with fail
        refine HIC.out.mono ?_
        rintro e w4 ⟨v4, rfl, ho4, hb4⟩
        obtain ⟨g4, cap4, rfl, hn4⟩ := ho4.slice HTN.out
        have HN4 := Lib.hid hn4; clear hn4
        have HO4 := Lib.hid (HO.out.below hb4)
        have HB4 := Lib.hid (HB.out.after hb4)
        have HS4 := Lib.hid (HS.out.below hb4)
        clear ho4 hb4 HIC
        have hge4 := Lib.hid HO4.out.own_ge
        go_wp2_with (at_builtin; refine wpList_append_own _ rfl _ _ 91 rfl (w.heap.size + 1) 5 i0 (.int .u8 0) 1 1 Tryz.underlying91 hi hz0 hz1 hz2 rfl (by decide) _ _ _ rfl HO4.out ⟨g4, 0, none⟩ (T).length _ (Lib.byteCells (T)) rfl (by rw [byteCells_length]; omega) HN4.out (byteCells_oneCell _) ?b4 ?c4 ?d4 ?_)
        case b4 => unfold maxLen; (try simp only [List.length_append, List.length_cons, List.length_nil]); omega
        case c4 => (try simp only [List.length_append, List.length_cons, List.length_nil]); omega
        case d4 => exact HB4.out.size
        intro v4 x4 hown hgrow _
        have HO5 : Hid (OwnB (w.heap.size + 1) x4 v4 (([123] ++ pre) ++ T)) := Lib.hid (OwnB.appended (u := T) hown (by first | rfl | (simp; done) | (simp; omega)))
        have HB5 := Lib.hid (HB4.out.grown hgrow hge4.out)
        have HS5 := Lib.hid (HS4.out.grown (t := ([123] ++ pre)) HO4.out hgrow)
        clear hown hgrow hge4
        obtain ⟨A5, n105, c105, rfl⟩ := own_sliceL HO5.out
        go_wp2_with fail
        go_roundw
        case rel => exact ⟨dn ++ [a :: ka.flat], r', pre ++ T, by simp, Lib.hid (by rw [HI.out]; simp [Txt.Fo.items]), Lib.hid HR.out.2.2.2, Lib.hid (by have := HO5.out; simpa using this), Lib.hid (by have := HP.out; rw [HPE.out] at this; rw [← this]; simp), HB5, HS5⟩
        case measure => simp [intOf]; omega
      · have hpe := tailT_node dn.length a ka r'
        rw [if_neg hj] at hpe
        have t1 : decide ((0 : Int) < (dn.length : Int)) = true := decide_eq_true (by omega)
        have t1' : decide (0 < dn.length) = true := decide_eq_true (by omega)
        have HJ := Lib.hid hj; clear hj
        have hge6 := Lib.hid HO.out.own_ge
        go_wp2_with (at_builtin; refine wpList_append_own _ rfl _ _ 91 rfl (w.heap.size + 1) 5 i0 (.int .u8 0) 1 1 Tryz.underlying91 hi hz0 hz1 hz2 rfl (by decide) _ _ _ rfl (World.ownsRow.alloc HO.out _) ⟨_, 0, none⟩ 1 1 (Lib.byteCells [44]) rfl rfl ?a6 (byteCells_oneCell _) ?b6 ?c6 ?d6 ?_)
        case a6 => exact new_list _ (Lib.byteCells [44]) _ _ (by first | rfl | simp)
        case b6 => unfold maxLen; (try simp only [List.length_append, List.length_cons, List.length_nil]); omega
        case c6 => (try simp only [List.length_append, List.length_cons, List.length_nil]); omega
        case d6 => have := HB.out.size; simp at this ⊢ <;> omega
        intro v6 x6 hown hgrow _
        have HO3 : Hid (OwnB (w.heap.size + 1) x6 v6 (([123] ++ pre) ++ [44])) := Lib.hid (by first | exact OwnB.appended (u := [44]) hown (by simp) | (have h2 := OwnB.appended (u := [44]) hown (by simp <;> omega); simpa using h2))
        have HB3 := Lib.hid ((HB.out.alloc _).grown hgrow hge6.out)
        have HS3 := Lib.hid ((HS.out.alloc _).grown (t := ([123] ++ pre)) (World.ownsRow.alloc HO.out _) hgrow)
        clear hown hgrow hge6
        obtain ⟨A7, n107, c107, rfl⟩ := own_sliceL HO3.out
        obtain ⟨g, lcap2, u, hle, hlc2, -, hg, hu, tsa, hsz⟩ := HX.out.item HS3.out HI.out HR.out
        simp only [Value.slice.injEq, true_and] at hle
        obtain ⟨rfl, rfl⟩ := hle
        obtain ⟨ad2, n2, cap2, rfl, -⟩ := tsa.at
        have HTS := Lib.hid tsa; clear tsa
        have HSZ := Lib.hid hsz; clear hsz
        have htl := HTS.out.txt_len
        obtain ⟨T, hT⟩ : ∃ T, Fo.txt a ka = T := ⟨_, rfl⟩
        rw [hT] at htl hpe
        have HPE := Lib.hid hpe; clear hpe
        have hTne : T ≠ [] := by rw [← hT]; exact txt_ne HTS.out.cell
        have HTN := Lib.hid hTne
        have HTT := Lib.hid hT; clear hT hTne
        have hic := HIH.out (.slice (some ad2) (n2 + 1) cap2) a ka _ (HTS.out.below HB3.out.be) (HT.out.below HB3.out.be) HSZ.out
        unfold ShowOut at hic; rw [HTT.out] at hic
        have HIC := Lib.hid hic; clear hic
        go_wp2_with fail
        refine HIC.out.mono ?_
        rintro e w4 ⟨v4, rfl, ho4, hb4⟩
        obtain ⟨g4, cap4, rfl, hn4⟩ := ho4.slice HTN.out
        have HN4 := Lib.hid hn4; clear hn4
        have HO4 := Lib.hid (HO3.out.below hb4)
        have HB4 := Lib.hid (HB3.out.after hb4)
        have HS4 := Lib.hid (HS3.out.below hb4)
        clear ho4 hb4 HIC
        have hge8 := Lib.hid HO4.out.own_ge
        go_wp2_with (at_builtin; refine wpList_append_own _ rfl _ _ 91 rfl (w.heap.size + 1) 5 i0 (.int .u8 0) 1 1 Tryz.underlying91 hi hz0 hz1 hz2 rfl (by decide) _ _ _ rfl HO4.out ⟨g4, 0, none⟩ (T).length _ (Lib.byteCells (T)) rfl (by rw [byteCells_length]; omega) HN4.out (byteCells_oneCell _) ?b8 ?c8 ?d8 ?_)
        case b8 => unfold maxLen; (try simp only [List.length_append, List.length_cons, List.length_nil]); omega
        case c8 => (try simp only [List.length_append, List.length_cons, List.length_nil]); omega
        case d8 => exact HB4.out.size
        intro v8 x8 hown hgrow _
        have HO5 : Hid (OwnB (w.heap.size + 1) x8 v8 (([123] ++ pre ++ [44]) ++ T)) := Lib.hid (OwnB.appended (u := T) hown (by first | rfl | (simp; done) | (simp; omega)))
        have HB5 := Lib.hid (HB4.out.grown hgrow hge8.out)
        have HS5 := Lib.hid (HS4.out.grown (t := ([123] ++ pre ++ [44])) HO4.out hgrow)
        clear hown hgrow hge8
        obtain ⟨A9, n109, c109, rfl⟩ := own_sliceL HO5.out
        go_wp2_with fail
        go_roundw
        case rel => exact ⟨dn ++ [a :: ka.flat], r', pre ++ [44] ++ T, by simp, Lib.hid (by rw [HI.out]; simp [Txt.Fo.items]), Lib.hid HR.out.2.2.2, Lib.hid (by have := HO5.out; simpa using this), Lib.hid (by have := HP.out; rw [HPE.out] at this; rw [← this]; simp), HB5, HS5⟩
        case measure => simp [intOf]; omega
end Go.Proofs.YtejpdfenejbjdaaGreatDoor

namespace Go.Proofs.YtejpdfenejbjdaaGreatDoor
open Go.RowKit Txt
set_option linter.unusedVariables false
set_option linter.unusedSimpArgs false

theorem txt_7 {c : Cl} {k : Fo} (hk : c.kind = 7) : Fo.txt c k = [91] ++ tailL 0 c k := by
  unfold Fo.txt tailL
  rw [if_pos hk, if_pos hk, if_pos rfl]; rfl
set_option maxHeartbeats 8000000 in
set_option maxRecDepth 100000 in
theorem rshow_7 (x : Value) (c : Cl) (k : Fo) (w : World) (hx : TS w x c k) (ht : Tabs w) (hk : c.kind = 7)
    (IH : ∀ (x' : Value) (a : Cl) (ka : Fo) (w' : World), TS w' x' a ka → Tabs w' → (a :: ka.flat).length < (c :: k.flat).length → Calls Tryz.prog 84 #[x'] w' (ShowOut w' a ka)) :
    Calls Tryz.prog 84 #[x] w (ShowOut w c k) := by
  have t1 : (c.kind == 1) = false := by rw [hk]; rfl
  have t2 : (c.kind == 2) = false := by rw [hk]; rfl
  have t3 : (c.kind == 3) = false := by rw [hk]; rfl
  have t4 : (c.kind == 4) = false := by rw [hk]; rfl
  have t6 : (c.kind == 6) = false := by rw [hk]; rfl
  have t8 : (c.kind == 8) = false := by rw [hk]; rfl
  have t5 : (c.kind == 5) = false := by rw [hk]; rfl
  have hsl := hx.txt_len
  rw [txt_7 hk, List.length_append] at hsl
  obtain ⟨RL, hRL⟩ : ∃ RL, tailL 0 c k = RL := ⟨_, rfl⟩
  rw [hRL] at hsl
  unfold ShowOut; rw [txt_7 hk, hRL]
  have HRL := Lib.hid hRL; clear hRL
  have HX := Lib.hid hx
  have HIH := Lib.hid IH; clear IH
  obtain ⟨P, hP⟩ : ∃ P, propT c k = P := ⟨_, rfl⟩
  have hsz0 := hx.size
  obtain ⟨M, hM⟩ : ∃ M, (c :: k.flat).length = M := ⟨_, rfl⟩
  rw [hM] at hsz0 HIH
  have HM := Lib.hid hM; clear hM
  obtain ⟨ad, n, cap, rfl, -, hcap, hblk, c0, c1, c2⟩ := hx.at
  have hz : ((0 : Int) < (n : Int) + 1) := by omega
  have HK := Lib.hid hk; clear hk hx
  have HT := Lib.hid ht; clear ht
  have HSL := Lib.hid hsl; clear hsl
  obtain ⟨i0, hi, hz0, hz1, hz2⟩ := info_parts info_u8
  have HB := Lib.hid (BX.start w (.cells #[.int .i64 c.kind, .int .i64 c.n, .string c.text] 74))
  have HO := Lib.hid (OwnB.nil (w.heap.size + 1) (w.alloc (.cells #[.int .i64 c.kind, .int .i64 c.n, .string c.text] 74)))
  go_enter Tryz.func84, Tryz.ntmps84
  have hge201 := Lib.hid HO.out.own_ge
  go_wp2_with (at_builtin; refine wpList_append_own _ rfl _ _ 91 rfl (w.heap.size + 1) 5 i0 (.int .u8 0) 1 1 Tryz.underlying91 hi hz0 hz1 hz2 rfl (by decide) _ _ _ rfl (World.ownsRow.alloc HO.out _) ⟨_, 0, none⟩ 1 1 (Lib.byteCells [91]) rfl rfl ?a201 (byteCells_oneCell _) ?b201 ?c201 ?d201 ?_)
  case a201 => exact new_list _ (Lib.byteCells [91]) _ _ (by first | rfl | simp)
  case b201 => unfold maxLen; (try simp only [List.length_append, List.length_cons, List.length_nil]); omega
  case c201 => (try simp only [List.length_append, List.length_cons, List.length_nil]); omega
  case d201 => have := HB.out.size; simp at this ⊢ <;> omega
  intro v201 x201 hown hgrow _
  have HO1 : Hid (OwnB (w.heap.size + 1) x201 v201 ([] ++ [91])) := Lib.hid (by first | exact OwnB.appended (u := [91]) hown (by simp) | (have h2 := OwnB.appended (u := [91]) hown (by simp <;> omega); simpa using h2))
  have HB1 := Lib.hid ((HB.out.alloc _).grown hgrow hge201.out)
  clear hown hgrow hge201
  obtain ⟨A202, n302, c302, rfl⟩ := own_sliceL HO1.out
  have hpc := rproper_calls _ c k _ (HX.out.below HB1.out.be)
  rw [hP] at hpc
  have HPC := Lib.hid hpc; clear hpc c0 c1 c2
  have HPP := Lib.hid hP; clear hP
  go_wp2_with fail
  refine HPC.out.mono ?_
  rintro e w2 ⟨rfl, hb2⟩
  have HO2 := Lib.hid (HO1.out.below hb2)
  have HB2 := Lib.hid (HB1.out.after hb2)
  clear HO1 HB1 HO HB HPC hb2
  go_wp2_with fail
  go_loopw [0, 3, 10, 11] (fun t b i l wr => ∃ (c' : Cl) (k' : Fo) (j m : Nat) (pre : List UInt8), i = .int .i64 (j : Int) ∧ j + m ≤ M ∧ Hid ((c' :: k'.flat).length = m) ∧ Hid (TS w t c' k') ∧ Hid (propT c' k' = P) ∧ Hid (j = 0 → c'.kind = 7)
      ∧ Hid (OwnB (w.heap.size + 1) wr b ([91] ++ pre)) ∧ Hid (pre ++ tailL j c' k' = RL) ∧ Hid (BX w (.cells #[.int .i64 c.kind, .int .i64 c.n, .string c.text] 74) wr)) (fun t _ _ _ _ => lenT t)
  case atStart => exact ⟨c, k, 0, M, [], rfl, by omega, HM, HX, HPP, Lib.hid fun _ => HK.out, HO2, Lib.hid (by simpa using HRL.out), HB2⟩
  case round =>
    obtain ⟨c', k', j, m, pre, rfl, hjm, HMM, HTS, HP', HJ7, HO, HR, HB⟩ := hrel
    clear HO2 HB2 HX
    have hpl : pre.length ≤ 4400000 := by
      have := congrArg List.length HR.out
      have := HSL.out
      rw [List.length_append] at *; omega
    obtain ⟨A0, n0, cc0, rfl⟩ := own_sliceL HO.out
    obtain ⟨ad', n', cap', rfl, hn', hcap', hblk', d0, d1, d2⟩ := (HTS.out.below HB.out.be).at
    have hzz : ((0 : Int) < (n' : Int) + 1) := by omega
    by_cases h7 : c'.kind = 7
    · have t7 : (c'.kind == 7) = true := beq_iff_eq.2 h7
      have H7 := Lib.hid h7; clear h7
      by_cases hj : j = 0
      · have u1 : decide ((0 : Int) < (j : Int)) = false := decide_eq_false (by omega)
        have u1' : decide (0 < j) = false := decide_eq_false (by omega)
        have hpc := (HTS.out.below HB.out.be).parts
        have HPC := Lib.hid hpc; clear hpc
        go_wp2_with fail
        refine HPC.out.mono ?_
        rintro e w3 ⟨lv, rfl, hs, hb3⟩
        clear d0 d1 d2
        have HS3 := Lib.hid hs
        obtain ⟨a, ka, b, kb, g, cap2, v0, -, rfl, rfl, hc2, hg, e0, -, s0, -⟩ := two_parts hs HTS.out H7.out
        clear hs
        have HO3 := Lib.hid (HO.out.below hb3)
        have HB3 := Lib.hid (HB.out.after hb3); clear hb3 HPC
        have hpe := tailL_7 j (a := a) (b := b) (ka := ka) (kb := kb) H7.out
        rw [if_pos hj] at hpe
        obtain ⟨ad2, n2, cap3, rfl, -⟩ := s0.at
        have HS0 := Lib.hid s0; clear s0
        have htl := HS0.out.txt_len
        obtain ⟨T, hT⟩ : ∃ T, Fo.txt a ka = T := ⟨_, rfl⟩
        rw [hT] at htl hpe
        have HPE := Lib.hid hpe; clear hpe
        have hTne : T ≠ [] := by rw [← hT]; exact txt_ne HS0.out.cell
        have HTN := Lib.hid hTne
        have HTT := Lib.hid hT; clear hT hTne
        have hszs : (a :: ka.flat).length + (b :: kb.flat).length + 1 = m := by rw [← HMM.out]; simp [Fo.flat]; omega
        have hic := HIH.out (.slice (some ad2) (n2 + 1) cap3) a ka _ (HS0.out.below HB3.out.be) (HT.out.below HB3.out.be) (by omega)
        unfold ShowOut at hic; rw [HTT.out] at hic
        have HIC := Lib.hid hic; clear hic
        have HSZ := Lib.hid hszs; clear hszs
        go_wp2_with fail
        refine HIC.out.mono ?_
        rintro e w4 ⟨v4, rfl, ho4, hb4⟩
        obtain ⟨g4, cap4, rfl, hn4⟩ := ho4.slice HTN.out
        have HN4 := Lib.hid hn4; clear hn4
        have HO4 := Lib.hid (HO3.out.below hb4)
        have HB4 := Lib.hid (HB3.out.after hb4)
        have HS4 := Lib.hid (HS3.out.below hb4)
        clear ho4 hb4 HIC e0
        have hge203 := Lib.hid HO4.out.own_ge
        go_wp2_with (at_builtin; refine wpList_append_own _ rfl _ _ 91 rfl (w.heap.size + 1) 5 i0 (.int .u8 0) 1 1 Tryz.underlying91 hi hz0 hz1 hz2 rfl (by decide) _ _ _ rfl HO4.out ⟨g4, 0, none⟩ (T).length _ (Lib.byteCells (T)) rfl (by rw [byteCells_length]; omega) HN4.out (byteCells_oneCell _) ?b203 ?c203 ?d203 ?_)
        case b203 => unfold maxLen; (try simp only [List.length_append, List.length_cons, List.length_nil]); omega
        case c203 => (try simp only [List.length_append, List.length_cons, List.length_nil]); omega
        case d203 => exact HB4.out.size
        intro v203 x203 hown hgrow _
        have HO5 : Hid (OwnB (w.heap.size + 1) x203 v203 (([91] ++ pre) ++ T)) := Lib.hid (OwnB.appended (u := T) hown (by first | rfl | (simp; done) | (simp; omega)))
        have HB5 := Lib.hid (HB4.out.grown hgrow hge203.out)
        have HS5 := Lib.hid (HS4.out.grown (t := ([91] ++ pre)) HO4.out hgrow)
        clear hown hgrow hge203
        obtain ⟨A204, n304, c304, rfl⟩ := own_sliceL HO5.out
        obtain ⟨a', ka', b', kb', g', cap2', -, v1, hke, hle, -, hg5, -, e1, -, s1⟩ := two_parts HS5.out HTS.out H7.out
        simp only [Value.slice.injEq, true_and, Option.some.injEq, Addr.mk.injEq, and_true] at hle
        obtain ⟨rfl, rfl⟩ := hle
        simp only [Fo.node.injEq, and_true] at hke
        obtain ⟨rfl, rfl, rfl, rfl⟩ := hke
        obtain ⟨ad3, n3, cap5, rfl, hn3, -⟩ := s1.at
        have HS1 := Lib.hid s1; clear s1
        go_wp2_with fail
        go_roundw
        case rel => exact ⟨b, kb, j + 1, (b :: kb.flat).length, pre ++ T, by go_num, by have := HSZ.out; omega, Lib.hid rfl, HS1, Lib.hid (by rw [← propT_7 H7.out]; exact HP'.out), Lib.hid (fun h => by omega), Lib.hid (by have := HO5.out; simpa using this), Lib.hid (by have := HR.out; rw [HPE.out] at this; rw [← this]; simp), HB5⟩
        case measure => have q1 := hn'.out; have q2 := hn3.out; simp [lenT]; rw [q1, q2]; simp [Fo.flat]; omega
      · have u1 : decide ((0 : Int) < (j : Int)) = true := decide_eq_true (by omega)
        have u1' : decide (0 < j) = true := decide_eq_true (by omega)
        have hge205 := Lib.hid HO.out.own_ge
        go_wp2_with (at_builtin; refine wpList_append_own _ rfl _ _ 91 rfl (w.heap.size + 1) 5 i0 (.int .u8 0) 1 1 Tryz.underlying91 hi hz0 hz1 hz2 rfl (by decide) _ _ _ rfl (World.ownsRow.alloc HO.out _) ⟨_, 0, none⟩ 1 1 (Lib.byteCells [44]) rfl rfl ?a205 (byteCells_oneCell _) ?b205 ?c205 ?d205 ?_)
        case a205 => exact new_list _ (Lib.byteCells [44]) _ _ (by first | rfl | simp)
        case b205 => unfold maxLen; (try simp only [List.length_append, List.length_cons, List.length_nil]); omega
        case c205 => (try simp only [List.length_append, List.length_cons, List.length_nil]); omega
        case d205 => have := HB.out.size; simp at this ⊢ <;> omega
        intro v205 x205 hown hgrow _
        have HO1 : Hid (OwnB (w.heap.size + 1) x205 v205 (([91] ++ pre) ++ [44])) := Lib.hid (by first | exact OwnB.appended (u := [44]) hown (by simp) | (have h2 := OwnB.appended (u := [44]) hown (by simp <;> omega); simpa using h2))
        have HB1 := Lib.hid ((HB.out.alloc _).grown hgrow hge205.out)
        clear hown hgrow hge205
        obtain ⟨A206, n306, c306, rfl⟩ := own_sliceL HO1.out
        have hpc := (HTS.out.below HB1.out.be).parts
        have HPC := Lib.hid hpc; clear hpc
        go_wp2_with fail
        refine HPC.out.mono ?_
        rintro e w3 ⟨lv, rfl, hs, hb3⟩
        clear d0 d1 d2
        have HS3 := Lib.hid hs
        obtain ⟨a, ka, b, kb, g, cap2, v0, -, rfl, rfl, hc2, hg, e0, -, s0, -⟩ := two_parts hs HTS.out H7.out
        clear hs
        have HO3 := Lib.hid (HO1.out.below hb3)
        have HB3 := Lib.hid (HB1.out.after hb3); clear hb3 HPC
        have hpe := tailL_7 j (a := a) (b := b) (ka := ka) (kb := kb) H7.out
        rw [if_neg hj] at hpe
        obtain ⟨ad2, n2, cap3, rfl, -⟩ := s0.at
        have HS0 := Lib.hid s0; clear s0
        have htl := HS0.out.txt_len
        obtain ⟨T, hT⟩ : ∃ T, Fo.txt a ka = T := ⟨_, rfl⟩
        rw [hT] at htl hpe
        have HPE := Lib.hid hpe; clear hpe
        have hTne : T ≠ [] := by rw [← hT]; exact txt_ne HS0.out.cell
        have HTN := Lib.hid hTne
        have HTT := Lib.hid hT; clear hT hTne
        have hszs : (a :: ka.flat).length + (b :: kb.flat).length + 1 = m := by rw [← HMM.out]; simp [Fo.flat]; omega
        have hic := HIH.out (.slice (some ad2) (n2 + 1) cap3) a ka _ (HS0.out.below HB3.out.be) (HT.out.below HB3.out.be) (by omega)
        unfold ShowOut at hic; rw [HTT.out] at hic
        have HIC := Lib.hid hic; clear hic
        have HSZ := Lib.hid hszs; clear hszs
        go_wp2_with fail
        refine HIC.out.mono ?_
        rintro e w4 ⟨v4, rfl, ho4, hb4⟩
        obtain ⟨g4, cap4, rfl, hn4⟩ := ho4.slice HTN.out
        have HN4 := Lib.hid hn4; clear hn4
        have HO4 := Lib.hid (HO3.out.below hb4)
        have HB4 := Lib.hid (HB3.out.after hb4)
        have HS4 := Lib.hid (HS3.out.below hb4)
        clear ho4 hb4 HIC e0
        have hge207 := Lib.hid HO4.out.own_ge
        go_wp2_with (at_builtin; refine wpList_append_own _ rfl _ _ 91 rfl (w.heap.size + 1) 5 i0 (.int .u8 0) 1 1 Tryz.underlying91 hi hz0 hz1 hz2 rfl (by decide) _ _ _ rfl HO4.out ⟨g4, 0, none⟩ (T).length _ (Lib.byteCells (T)) rfl (by rw [byteCells_length]; omega) HN4.out (byteCells_oneCell _) ?b207 ?c207 ?d207 ?_)
        case b207 => unfold maxLen; (try simp only [List.length_append, List.length_cons, List.length_nil]); omega
        case c207 => (try simp only [List.length_append, List.length_cons, List.length_nil]); omega
        case d207 => exact HB4.out.size
        intro v207 x207 hown hgrow _
        have HO5 : Hid (OwnB (w.heap.size + 1) x207 v207 (([91] ++ pre ++ [44]) ++ T)) := Lib.hid (OwnB.appended (u := T) hown (by first | rfl | (simp; done) | (simp; omega)))
        have HB5 := Lib.hid (HB4.out.grown hgrow hge207.out)
        have HS5 := Lib.hid (HS4.out.grown (t := ([91] ++ pre ++ [44])) HO4.out hgrow)
        clear hown hgrow hge207
        obtain ⟨A208, n308, c308, rfl⟩ := own_sliceL HO5.out
        obtain ⟨a', ka', b', kb', g', cap2', -, v1, hke, hle, -, hg5, -, e1, -, s1⟩ := two_parts HS5.out HTS.out H7.out
        simp only [Value.slice.injEq, true_and, Option.some.injEq, Addr.mk.injEq, and_true] at hle
        obtain ⟨rfl, rfl⟩ := hle
        simp only [Fo.node.injEq, and_true] at hke
        obtain ⟨rfl, rfl, rfl, rfl⟩ := hke
        obtain ⟨ad3, n3, cap5, rfl, hn3, -⟩ := s1.at
        have HS1 := Lib.hid s1; clear s1
        go_wp2_with fail
        go_roundw
        case rel => exact ⟨b, kb, j + 1, (b :: kb.flat).length, pre ++ [44] ++ T, by go_num, by have := HSZ.out; omega, Lib.hid rfl, HS1, Lib.hid (by rw [← propT_7 H7.out]; exact HP'.out), Lib.hid (fun h => by omega), Lib.hid (by have := HO5.out; simpa using this), Lib.hid (by have := HR.out; rw [HPE.out] at this; rw [← this]; simp), HB5⟩
        case measure => have q1 := hn'.out; have q2 := hn3.out; simp [lenT]; rw [q1, q2]; simp [Fo.flat]; omega
    · have t7 : (c'.kind == 7) = false := beq_eq_false_iff_ne.2 h7
      have hj : j ≠ 0 := fun h => h7 (HJ7.out h)
      have hR := HR.out
      unfold tailL at hR; rw [if_neg h7] at hR
      have hp6 := HP'.out
      rw [propT_not h7] at hp6
      by_cases h6 : c'.kind = 6
      · rw [if_pos h6] at hR
        have : (c'.kind == 6) = true := beq_iff_eq.2 h6
        rw [this] at hp6
        subst hp6
        have HR2 := Lib.hid hR; clear hR h6 h7 this
        have hge209 := Lib.hid HO.out.own_ge
        go_wp2_with (at_builtin; refine wpList_append_own _ rfl _ _ 91 rfl (w.heap.size + 1) 5 i0 (.int .u8 0) 1 1 Tryz.underlying91 hi hz0 hz1 hz2 rfl (by decide) _ _ _ rfl (World.ownsRow.alloc HO.out _) ⟨_, 0, none⟩ 1 1 (Lib.byteCells [93]) rfl rfl ?a209 (byteCells_oneCell _) ?b209 ?c209 ?d209 ?_)
        case a209 => exact new_list _ (Lib.byteCells [93]) _ _ (by first | rfl | simp)
        case b209 => unfold maxLen; (try simp only [List.length_append, List.length_cons, List.length_nil]); omega
        case c209 => (try simp only [List.length_append, List.length_cons, List.length_nil]); omega
        case d209 => have := HB.out.size; simp at this ⊢ <;> omega
        intro v209 x209 hown hgrow _
        have HO1 : Hid (OwnB (w.heap.size + 1) x209 v209 (([91] ++ pre) ++ [93])) := Lib.hid (by first | exact OwnB.appended (u := [93]) hown (by simp) | (have h2 := OwnB.appended (u := [93]) hown (by simp <;> omega); simpa using h2))
        have HB1 := Lib.hid ((HB.out.alloc _).grown hgrow hge209.out)
        clear hown hgrow hge209
        go_wp2
        go_ret
        exact ⟨_, rfl, by have := HO1.out.mono (Nat.le_succ _); rw [← HR2.out]; simpa using this, HB1.out.be⟩
      · rw [if_neg h6] at hR
        have : (c'.kind == 6) = false := beq_eq_false_iff_ne.2 h6
        rw [this] at hp6
        subst hp6
        have htl := HTS.out.txt_len
        obtain ⟨T, hT⟩ : ∃ T, Fo.txt c' k' = T := ⟨_, rfl⟩
        rw [hT] at htl hR
        have hTne : T ≠ [] := by rw [← hT]; exact txt_ne HTS.out.cell
        have HTN := Lib.hid hTne
        have HTT := Lib.hid hT; clear hT hTne
        have HR2 := Lib.hid hR; clear hR h6 h7 this
        have hge210 := Lib.hid HO.out.own_ge
        go_wp2_with (at_builtin; refine wpList_append_own _ rfl _ _ 91 rfl (w.heap.size + 1) 5 i0 (.int .u8 0) 1 1 Tryz.underlying91 hi hz0 hz1 hz2 rfl (by decide) _ _ _ rfl (World.ownsRow.alloc HO.out _) ⟨_, 0, none⟩ 1 1 (Lib.byteCells [124]) rfl rfl ?a210 (byteCells_oneCell _) ?b210 ?c210 ?d210 ?_)
        case a210 => exact new_list _ (Lib.byteCells [124]) _ _ (by first | rfl | simp)
        case b210 => unfold maxLen; (try simp only [List.length_append, List.length_cons, List.length_nil]); omega
        case c210 => (try simp only [List.length_append, List.length_cons, List.length_nil]); omega
        case d210 => have := HB.out.size; simp at this ⊢ <;> omega
        intro v210 x210 hown hgrow _
        have HO1 : Hid (OwnB (w.heap.size + 1) x210 v210 (([91] ++ pre) ++ [124])) := Lib.hid (by first | exact OwnB.appended (u := [124]) hown (by simp) | (have h2 := OwnB.appended (u := [124]) hown (by simp <;> omega); simpa using h2))
        have HB1 := Lib.hid ((HB.out.alloc _).grown hgrow hge210.out)
        clear hown hgrow hge210
        obtain ⟨A211, n311, c311, rfl⟩ := own_sliceL HO1.out
        have hic := HIH.out (.slice (some ad') (n' + 1) cap') c' k' _ (HTS.out.below HB1.out.be) (HT.out.below HB1.out.be) (by have := HMM.out; omega)
        unfold ShowOut at hic; rw [HTT.out] at hic
        have HIC := Lib.hid hic; clear hic
        go_wp2_with fail
        refine HIC.out.mono ?_
        rintro e w4 ⟨v4, rfl, ho4, hb4⟩
        obtain ⟨g4, cap4, rfl, hn4⟩ := ho4.slice HTN.out
        have HN4 := Lib.hid hn4; clear hn4
        have HO4 := Lib.hid (HO1.out.below hb4)
        have HB4 := Lib.hid (HB1.out.after hb4)
        clear ho4 hb4 HIC d0 d1 d2
        have hge212 := Lib.hid HO4.out.own_ge
        go_wp2_with (at_builtin; refine wpList_append_own _ rfl _ _ 91 rfl (w.heap.size + 1) 5 i0 (.int .u8 0) 1 1 Tryz.underlying91 hi hz0 hz1 hz2 rfl (by decide) _ _ _ rfl HO4.out ⟨g4, 0, none⟩ (T).length _ (Lib.byteCells (T)) rfl (by rw [byteCells_length]; omega) HN4.out (byteCells_oneCell _) ?b212 ?c212 ?d212 ?_)
        case b212 => unfold maxLen; (try simp only [List.length_append, List.length_cons, List.length_nil]); omega
        case c212 => (try simp only [List.length_append, List.length_cons, List.length_nil]); omega
        case d212 => exact HB4.out.size
        intro v212 x212 hown hgrow _
        have HO5 : Hid (OwnB (w.heap.size + 1) x212 v212 (([91] ++ pre ++ [124]) ++ T)) := Lib.hid (OwnB.appended (u := T) hown (by first | rfl | (simp; done) | (simp; omega)))
        have HB5 := Lib.hid (HB4.out.grown hgrow hge212.out)
        clear hown hgrow hge212
        obtain ⟨A213, n313, c313, rfl⟩ := own_sliceL HO5.out
        have hge214 := Lib.hid HO5.out.own_ge
        go_wp2_with (at_builtin; refine wpList_append_own _ rfl _ _ 91 rfl (w.heap.size + 1) 5 i0 (.int .u8 0) 1 1 Tryz.underlying91 hi hz0 hz1 hz2 rfl (by decide) _ _ _ rfl (World.ownsRow.alloc HO5.out _) ⟨_, 0, none⟩ 1 1 (Lib.byteCells [93]) rfl rfl ?a214 (byteCells_oneCell _) ?b214 ?c214 ?d214 ?_)
        case a214 => exact new_list _ (Lib.byteCells [93]) _ _ (by first | rfl | simp)
        case b214 => unfold maxLen; (try simp only [List.length_append, List.length_cons, List.length_nil]); omega
        case c214 => (try simp only [List.length_append, List.length_cons, List.length_nil]); omega
        case d214 => have := HB5.out.size; simp at this ⊢ <;> omega
        intro v214 x214 hown hgrow _
        have HO6 : Hid (OwnB (w.heap.size + 1) x214 v214 (([91] ++ pre ++ [124] ++ T) ++ [93])) := Lib.hid (by first | exact OwnB.appended (u := [93]) hown (by simp) | (have h2 := OwnB.appended (u := [93]) hown (by simp <;> omega); simpa using h2))
        have HB6 := Lib.hid ((HB5.out.alloc _).grown hgrow hge214.out)
        clear hown hgrow hge214
        go_wp2
        go_ret
        exact ⟨_, rfl, by have := HO6.out.mono (Nat.le_succ _); rw [← HR2.out]; simpa using this, HB6.out.be⟩
theorem rshow_calls : ∀ (N : Nat) (x : Value) (c : Cl) (k : Fo) (w : World), (c :: k.flat).length ≤ N → TS w x c k → Tabs w → Calls Tryz.prog 84 #[x] w (ShowOut w c k) := by
  intro N
  induction N with
  | zero => intro x c k w h; simp at h
  | succ N ih =>
    intro x c k w hN hx ht
    have IH : ∀ (x' : Value) (a : Cl) (ka : Fo) (w' : World), TS w' x' a ka → Tabs w' → (a :: ka.flat).length < (c :: k.flat).length → Calls Tryz.prog 84 #[x'] w' (ShowOut w' a ka) := fun x' a ka w' h1 h2 h3 => ih x' a ka w' (by omega) h1 h2
    obtain ⟨k1, k8, -⟩ := cell_ok hx.cell
    rcases (by omega : c.kind = 1 ∨ c.kind = 2 ∨ c.kind = 3 ∨ c.kind = 4 ∨ c.kind = 5 ∨ c.kind = 6 ∨ c.kind = 7 ∨ c.kind = 8) with h | h | h | h | h | h | h | h
    · exact rshow_1 x c k w hx ht h
    · exact rshow_2 x c k w hx ht h
    · exact rshow_3 x c k w hx ht h
    · exact rshow_4 x c k w hx ht h
    · exact rshow_5 x c k w hx ht h IH
    · exact rshow_6 x c k w hx ht h
    · exact rshow_7 x c k w hx ht h IH
    · exact rshow_8 x c k w hx ht h
end Go.Proofs.YtejpdfenejbjdaaGreatDoor
