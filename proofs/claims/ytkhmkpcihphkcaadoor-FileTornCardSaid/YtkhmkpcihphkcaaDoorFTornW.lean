/- FileTorn: the walk. Condition: the library's table of powers of ten lies as the program's text lays it. -/
import Derived.Test.YtkhmkpcihphkcaaDoorMkF
import Derived.Test.YtkhmkpcihphkcaaDoorFlY
import Derived.Test.YtkhmkpcihphkcaaDoorFileTell
import Derived.Test.YtkhmkpcihphkcaaDoorFree
set_option linter.unusedVariables false
set_option linter.unusedSimpArgs false
namespace Go.Proofs.YtkhmkpcihphkcaaDoor
namespace Fl
open Go.RowKit Go.Shelf
set_option maxRecDepth 100000
theorem good10 {xs : List ByteArray} (hl : xs.length ≤ 10) (h : ∀ s ∈ xs, File.okLine s = true ∧ s.size ≤ 40) : File.check xs = 0 := check_of_good ⟨by omega, fun s hs => (h s hs).2, fun s hs => (h s hs).1⟩
theorem mk10 (g : Nat) (w : World) (h : IsSpool (g + 1) w g 0) : Calls Tryd.prog 16 #[.pointer (some ⟨g, 0, none⟩), .int .i64 10] w fun e w' => ∃ (v : Value) (xs : List ByteArray), e = .returned v ∧ Own strE 9 w.heap.size w' v xs ∧ xs.length ≤ 10 ∧ (∀ s ∈ xs, File.okLine s = true ∧ s.size ≤ 40) ∧ Only g w w' := by
  have := mk_spec (g + 1) w g 0 10 h (Nat.zero_lt_succ _) (by decide)
  refine this.mono ?_
  rintro e w' ⟨v, xs, k', rfl, h1, h2, h3, _, _, h4⟩
  exact ⟨v, xs, rfl, h1, h2, h3, h4⟩
theorem printed_le : ∀ (f : List ByteArray), (∀ s ∈ f, s.size ≤ 40) → (File.printed f).length ≤ f.length * 50
  | [], _ => Nat.zero_le _
  | s :: f, h => by
    have h1 := printed_le f fun t ht => h t (List.mem_cons_of_mem _ ht)
    have h2 := h s (by simp)
    have h3 := dec_len 5 s.size (by omega)
    have h4 : (File.bts s).length = s.size := by simp
    simp only [File.printed, List.length_append, List.length_cons]
    omega
theorem text_le {f : List ByteArray} (hf : File.check f = 0) (hl : f.length ≤ 10) : 0 < (File.text f).length ∧ (File.text f).length ≤ 600 := by
  have hg := good_of_check hf
  have h1 := printed_le f hg.wide
  have h2 := sum_bounds f
  have h3 := dec_len 5 (File.sum f).toNat (by omega)
  unfold File.text File.endOf
  simp only [List.length_append, List.length_cons, List.length_nil]
  omega
theorem ba_bts (s : ByteArray) : File.ba (File.bts s) = s := by apply ByteArray.ext; simp [File.ba]
theorem ba_add (a b : List UInt8) : File.ba a ++ File.ba b = File.ba (a ++ b) := ba_append a b
theorem ba_to {L : List UInt8} {i : Nat} (h : i ≤ L.length) (W : World) : (Instr.slice 9 (.string (File.ba L)) none (some (iv (i : Int))) none).run Tryd.prog W = .ok (.string (File.ba (L.take i))) W := by
  rw [run_slice_string_to_if W 9 (File.ba L) .i64 i Tryd.underlying9, if_pos ⟨by omega, by rw [ba_size]; omega⟩]
  have : (File.ba L).extract 0 (i : Int).toNat = File.ba (L.take i) := by
    apply ByteArray.ext
    simp [File.ba]
  rw [this]
theorem ba_from {L : List UInt8} {i : Nat} (h : i ≤ L.length) (W : World) : (Instr.slice 9 (.string (File.ba L)) (some (iv (i : Int))) none none).run Tryd.prog W = .ok (.string (File.ba (L.drop i))) W := by
  rw [run_slice_string_from_if W 9 (File.ba L) .i64 i Tryd.underlying9, if_pos ⟨by omega, by rw [ba_size]; omega⟩]
  have : (File.ba L).extract (i : Int).toNat (File.ba L).size = File.ba (L.drop i) := by
    apply ByteArray.ext
    simp [File.ba, ByteArray.size]
    exact List.take_of_length_le (by simp)
  rw [this]
set_option maxHeartbeats 8000000 in
theorem torn_law (A : Option Addr) (bs : List Int) (c : Nat) (at_ by_ : Nat) (w : World) (hs : Sl byteE w A bs) (ha : at_ ≤ 65535) (hby : by_ ≤ 255) (ht : Tab w) :
    Calls Tryd.prog 4 #[.slice A bs.length c, .int .u16 (at_ : Int), .int .u8 (by_ : Int)] w fun e w' => e = .returned (.bool true) ∧ Below w.heap.size w w' := by
  have HT := Lib.hid ht
  clear ht
  go_enter Tryd.func4, Tryd.ntmps4
  go_wp2_with fail
  refine (wound_spec A bs c w hs).mono ?_
  rintro e w1 ⟨_, rfl, rfl, hsp1, hb1⟩
  go_wp2_with fail
  refine (mk10 w.heap.size w1 hsp1).mono ?_
  rintro e w2 ⟨v, f, rfl, hof, hfl, hfg, hon⟩
  obtain ⟨Af, cf, rfl, hcf, _⟩ := hof.form
  have hb02 : Below w.heap.size w w2 := hb1.trans (hon.below.mono (Nat.le_refl _))
  have hck := good10 hfl hfg
  have hPR := print_spec Af f cf w2 (by unfold big; omega) hof.sl (HT.out.below hb02)
  rw [if_pos hck, hck] at hPR
  have hlen := text_le hck hfl
  have HF := Lib.hid hof.sl
  have HTORN := Lib.hid fun (t : List UInt8) (i : Nat) => File.torn hck (t := t) (i := i)
  obtain ⟨L, hL⟩ : ∃ L, L = File.text f := ⟨_, rfl⟩
  rw [← hL] at hPR hlen HTORN
  obtain ⟨S, hS⟩ : ∃ S, S = File.ba L := ⟨_, rfl⟩
  rw [← hS] at hPR
  have hsz : S.size = L.length := by rw [hS]; exact ba_size L
  have hs0 : ((S.size : Int) == 0) = false := beq_eq_false_iff_ne.2 (by omega)
  have hs1 : S.size ≤ 600 := by omega
  have ew1 : IntKind.i64.wrap (at_ : Int) = (at_ : Int) := IntWalk.i64_in _ (by omega)
  have ew2 : IntKind.i64.wrap ((S.size : Int) + 1) = (S.size : Int) + 1 := IntWalk.i64_in _ (by omega)
  have hn0 : ¬ (S.size : Int) + 1 = 0 := by omega
  have hm1 : Int.tmod (at_ : Int) ((S.size : Int) + 1) = ((at_ % (S.size + 1) : Nat) : Int) := by rw [Int.tmod_eq_emod_of_nonneg (by omega)]; rfl
  obtain ⟨i, hie⟩ : ∃ i, i = at_ % (S.size + 1) := ⟨_, rfl⟩
  have hi : i ≤ S.size := by rw [hie]; exact Nat.le_of_lt_succ (Nat.mod_lt _ (by omega))
  rw [← hie] at hm1
  have HSZ := Lib.hid hsz
  have HL := Lib.hid hL
  have HS := Lib.hid hS
  clear hsp1 hb1 hon hs hfg hck hsz hL hS hie hof
  go_wp2_with fail
  refine hPR.mono ?_
  rintro e w3 ⟨rfl, hb3⟩
  have hb03 := hb02.next hb3 (Nat.le_refl _)
  have HF3 := Lib.hid (HF.out.below hb3)
  clear hPR hb02 hb3 HF
  go_upto_region 6 with fail
  obtain ⟨m, hm⟩ : ∃ m, m = min (i + 1) S.size := ⟨_, rfl⟩
  have hmS : m ≤ S.size := by omega
  have hTo : ∀ W : World, (Instr.slice 9 (.string S) none (some (iv (i : Int))) none).run Tryd.prog W = .ok (.string (File.ba (L.take i))) W := by rw [HS.out]; exact ba_to (by rw [← HSZ.out]; exact hi)
  have hFr : ∀ W : World, (Instr.slice 9 (.string S) (some (iv (i : Int))) none none).run Tryd.prog W = .ok (.string (File.ba (L.drop i))) W := by rw [HS.out]; exact ba_from (by rw [← HSZ.out]; exact hi)
  have hFm : ∀ W : World, (Instr.slice 9 (.string S) (some (iv (m : Int))) none none).run Tryd.prog W = .ok (.string (File.ba (L.drop m))) W := by rw [HS.out]; exact ba_from (by rw [← HSZ.out]; exact hmS)
  obtain ⟨PR, hPR⟩ : ∃ PR, PR = File.ba (L.take i) := ⟨_, rfl⟩
  obtain ⟨PO, hPO⟩ : ∃ PO, PO = File.ba (L.drop i) := ⟨_, rfl⟩
  obtain ⟨PM, hPM⟩ : ∃ PM, PM = File.ba (L.drop m) := ⟨_, rfl⟩
  obtain ⟨BY, hBY'⟩ : ∃ BY, BY = strOfNums [(by_ : Int)] := ⟨_, rfl⟩
  have hBY := hBY'.symm
  rw [← hPR] at hTo
  rw [← hPO] at hFr
  rw [← hPM] at hFm
  have hmi : min ((i : Int) + 1) (S.size : Int) = (m : Int) := by omega
  have ei : IntKind.i64.wrap ((i : Int) + 1) = (i : Int) + 1 := IntWalk.i64_in _ (by omega)
  -- the four texts
  obtain ⟨us, hus⟩ : ∃ us : List (List UInt8), us = [[], File.bts BY ++ L.drop i, File.bts BY ++ L.drop m, L.drop m] := ⟨_, rfl⟩
  have hts : [PR, PR ++ BY ++ PO, PR ++ BY ++ PM, PR ++ PM] = us.map fun u => File.ba (L.take i ++ u) := by
    have hb : BY = File.ba (File.bts BY) := (ba_bts BY).symm
    rw [hus, hPR, hPO, hPM, hb]
    simp only [List.map_cons, List.map_nil, ba_add, List.append_nil, File.bts_ba, List.append_assoc]
  have HTS := Lib.hid hts
  have HBYL : Hid (∀ u ∈ us, u.length ≤ 100000) := Lib.hid (by
    rw [hus]
    intro u hu
    have hbl : BY.size = 1 := by rw [hBY']; rfl
    simp only [List.mem_cons, List.not_mem_nil, or_false] at hu
    rcases hu with rfl | rfl | rfl | rfl <;> simp <;> have := HSZ.out <;> omega)
  have HU0 : Hid (∀ k, ∀ u, us[k]? = some u → k = 0 → u = []) := Lib.hid (by rw [hus]; rintro k u h rfl; simpa using h.symm)
  have hul : us.length = 4 := by rw [hus]; rfl
  have z1 : PR.size ≤ 600 := by rw [hPR, ba_size, List.length_take]; have := HSZ.out; omega
  have z2 : PO.size ≤ 600 := by rw [hPO, ba_size, List.length_drop]; have := HSZ.out; omega
  have z3 : PM.size ≤ 600 := by rw [hPM, ba_size, List.length_drop]; have := HSZ.out; omega
  have z4 : BY.size = 1 := by rw [hBY']; rfl
  clear hts hPR hPO hPM hBY' hus hm
  refine wp_free_lit (by kernel_rfl) 43 (by kernel_rfl) (by kernel_rfl) (by decide) (fun _ x => Below w3.heap.size w3 x) (fun x x' => Below x.heap.size x x')
    [fun _ u _ => u = .string S,
     fun _ u _ => u = iv (i : Int),
     fun _ u _ => u = .string PR,
     fun _ u _ => u = .string S,
     fun _ u _ => u = iv (i : Int),
     fun _ u _ => u = .string PR,
     fun _ u _ => u = .int .u8 (by_ : Int),
     fun _ u x => ∃ A, u = .slice A 1 1 ∧ Sl byteE x A [(by_ : Int)],
     fun _ u _ => u = .string BY,
     fun _ u _ => u = .string (PR ++ BY),
     fun _ u _ => u = .string S,
     fun _ u _ => u = iv (i : Int),
     fun _ u _ => u = .string PO,
     fun _ u _ => u = .string (PR ++ BY ++ PO),
     fun _ u _ => u = .string S,
     fun _ u _ => u = iv (i : Int),
     fun _ u _ => u = .string PR,
     fun _ u _ => u = .int .u8 (by_ : Int),
     fun _ u x => ∃ A, u = .slice A 1 1 ∧ Sl byteE x A [(by_ : Int)],
     fun _ u _ => u = .string BY,
     fun _ u _ => u = .string (PR ++ BY),
     fun _ u _ => u = .string S,
     fun _ u _ => u = iv (i : Int),
     fun _ u _ => u = iv ((i : Int) + 1),
     fun _ u _ => u = .string S,
     fun _ u _ => u = iv (S.size : Int),
     fun _ u _ => u = iv (m : Int),
     fun _ u _ => u = .string PM,
     fun _ u _ => u = .string (PR ++ BY ++ PM),
     fun _ u _ => u = .string S,
     fun _ u _ => u = iv (i : Int),
     fun _ u _ => u = .string PR,
     fun _ u _ => u = .string S,
     fun _ u _ => u = iv (i : Int),
     fun _ u _ => u = iv ((i : Int) + 1),
     fun _ u _ => u = .string S,
     fun _ u _ => u = iv (S.size : Int),
     fun _ u _ => u = iv (m : Int),
     fun _ u _ => u = .string PM,
     fun _ u _ => u = .string (PR ++ PM),
     fun _ u x => ∃ g, u = .slice (some ⟨g, 0, none⟩) 4 4 ∧ Own strE 9 w3.heap.size x (.slice (some ⟨g, 0, none⟩) 4 4) [PR, PR ++ BY ++ PO, PR ++ BY ++ PM, PR ++ PM],
     fun _ u _ => u = iv 4,
     fun _ u _ => u = iv 0]
    (Below.refl _ w3).drew ?_ ?_
  · simp only [List.take_succ_cons, List.take_zero, HopL]
    refine ⟨?_, ?_, ?_, ?_, ?_, ?_, ?_, ?_, ?_, ?_, ?_, ?_, ?_, ?_, ?_, ?_, ?_, ?_, ?_, ?_, ?_, ?_, ?_, ?_, ?_, ?_, ?_, ?_, ?_, ?_, ?_, ?_, ?_, ?_, ?_, ?_, ?_, ?_, ?_, ?_, ?_, ?_, ?_, trivial⟩
    · refine ⟨fun _ _ _ _ _ h => h, fun _ _ _ _ h _ => h, fun v n x hn hR hk => ?_⟩
      simp only [List.take_succ_cons, List.take_zero, frameF, Act.put, List.setIfInBounds_toArray, List.set_cons_zero, List.set_cons_succ]
      exact stepF_val (by rfl) (by go_simp <;> omega) ⟨rfl, Below.refl _ _, hR⟩
    · refine ⟨fun _ _ _ _ _ h => h, fun _ _ _ _ h _ => h, fun v n x hn hR hk => ?_⟩
      simp only [List.take_succ_cons, List.take_zero, frameF, Act.put, List.setIfInBounds_toArray, List.set_cons_zero, List.set_cons_succ]
      exact stepF_val (by rfl) (by go_simp <;> omega) ⟨rfl, Below.refl _ _, hR⟩
    · refine ⟨fun _ _ _ _ _ h => h, fun _ _ _ _ h _ => h, fun v n x hn hR hk => ?_⟩
      have h0 : v 0 = .string S := hk 0 (by kernel_rfl)
      have h1 : v 1 = iv (i : Int) := hk 1 (by kernel_rfl)
      simp only [List.take_succ_cons, List.take_zero, frameF, Act.put, List.setIfInBounds_toArray, List.set_cons_zero, List.set_cons_succ]
      exact stepF_val (by rfl) (by go_simp <;> omega) ⟨rfl, Below.refl _ _, hR⟩
    · refine ⟨fun _ _ _ _ _ h => h, fun _ _ _ _ h _ => h, fun v n x hn hR hk => ?_⟩
      simp only [List.take_succ_cons, List.take_zero, frameF, Act.put, List.setIfInBounds_toArray, List.set_cons_zero, List.set_cons_succ]
      exact stepF_val (by rfl) (by go_simp <;> omega) ⟨rfl, Below.refl _ _, hR⟩
    · refine ⟨fun _ _ _ _ _ h => h, fun _ _ _ _ h _ => h, fun v n x hn hR hk => ?_⟩
      simp only [List.take_succ_cons, List.take_zero, frameF, Act.put, List.setIfInBounds_toArray, List.set_cons_zero, List.set_cons_succ]
      exact stepF_val (by rfl) (by go_simp <;> omega) ⟨rfl, Below.refl _ _, hR⟩
    · refine ⟨fun _ _ _ _ _ h => h, fun _ _ _ _ h _ => h, fun v n x hn hR hk => ?_⟩
      have h3 : v 3 = .string S := hk 3 (by kernel_rfl)
      have h4 : v 4 = iv (i : Int) := hk 4 (by kernel_rfl)
      simp only [List.take_succ_cons, List.take_zero, frameF, Act.put, List.setIfInBounds_toArray, List.set_cons_zero, List.set_cons_succ]
      exact stepF_val (by rfl) (by go_simp <;> omega) ⟨rfl, Below.refl _ _, hR⟩
    · refine ⟨fun _ _ _ _ _ h => h, fun _ _ _ _ h _ => h, fun v n x hn hR hk => ?_⟩
      simp only [List.take_succ_cons, List.take_zero, frameF, Act.put, List.setIfInBounds_toArray, List.set_cons_zero, List.set_cons_succ]
      exact stepF_val (by rfl) (by go_simp <;> omega) ⟨rfl, Below.refl _ _, hR⟩
    · refine ⟨fun _ _ _ _ _ h => h, fun _ _ _ _ h hS => (by obtain ⟨A, h1, h2⟩ := h; exact ⟨A, h1, h2.below hS⟩), fun v n x hn hR hk => ?_⟩
      have h6 : v 6 = .int .u8 (by_ : Int) := hk 6 (by kernel_rfl)
      simp only [List.take_succ_cons, List.take_zero, frameF, Act.put, List.setIfInBounds_toArray, List.set_cons_zero, List.set_cons_succ]
      exact stepF_new (u := .slice (some ⟨x.heap.size, 0, none⟩) 1 1) (w' := x.alloc (.cells #[.int .u8 (by_ : Int)] 5)) (by rfl) (by go_simp) ⟨⟨_, rfl, Sl.fresh byteE x 5 #[.int .u8 (by_ : Int)] [(by_ : Int)] rfl (by simp [maxLen])⟩, (Below.refl _ _).alloc (Nat.le_refl _) _, hR.alloc hR.size _⟩
    · refine ⟨fun _ _ _ _ _ h => h, fun _ _ _ _ h _ => h, fun v n x hn hR hk => ?_⟩
      obtain ⟨A, h7, hsl⟩ : ∃ A, v 7 = .slice A 1 1 ∧ Sl byteE x A [(by_ : Int)] := hk 7 (by kernel_rfl)
      have hcv := conv_run (c := 1) hsl
      simp only [List.length_singleton, hBY] at hcv
      simp only [List.take_succ_cons, List.take_zero, frameF, Act.put, List.setIfInBounds_toArray, List.set_cons_zero, List.set_cons_succ]
      exact stepF_val (by rfl) (by go_simp <;> omega) ⟨rfl, Below.refl _ _, hR⟩
    · refine ⟨fun _ _ _ _ _ h => h, fun _ _ _ _ h _ => h, fun v n x hn hR hk => ?_⟩
      have h5 : v 5 = .string PR := hk 5 (by kernel_rfl)
      have h8 : v 8 = .string BY := hk 8 (by kernel_rfl)
      simp only [List.take_succ_cons, List.take_zero, frameF, Act.put, List.setIfInBounds_toArray, List.set_cons_zero, List.set_cons_succ]
      exact stepF_val (by rfl) (by go_simp <;> omega) ⟨rfl, Below.refl _ _, hR⟩
    · refine ⟨fun _ _ _ _ _ h => h, fun _ _ _ _ h _ => h, fun v n x hn hR hk => ?_⟩
      simp only [List.take_succ_cons, List.take_zero, frameF, Act.put, List.setIfInBounds_toArray, List.set_cons_zero, List.set_cons_succ]
      exact stepF_val (by rfl) (by go_simp <;> omega) ⟨rfl, Below.refl _ _, hR⟩
    · refine ⟨fun _ _ _ _ _ h => h, fun _ _ _ _ h _ => h, fun v n x hn hR hk => ?_⟩
      simp only [List.take_succ_cons, List.take_zero, frameF, Act.put, List.setIfInBounds_toArray, List.set_cons_zero, List.set_cons_succ]
      exact stepF_val (by rfl) (by go_simp <;> omega) ⟨rfl, Below.refl _ _, hR⟩
    · refine ⟨fun _ _ _ _ _ h => h, fun _ _ _ _ h _ => h, fun v n x hn hR hk => ?_⟩
      have h10 : v 10 = .string S := hk 10 (by kernel_rfl)
      have h11 : v 11 = iv (i : Int) := hk 11 (by kernel_rfl)
      simp only [List.take_succ_cons, List.take_zero, frameF, Act.put, List.setIfInBounds_toArray, List.set_cons_zero, List.set_cons_succ]
      exact stepF_val (by rfl) (by go_simp <;> omega) ⟨rfl, Below.refl _ _, hR⟩
    · refine ⟨fun _ _ _ _ _ h => h, fun _ _ _ _ h _ => h, fun v n x hn hR hk => ?_⟩
      have h9 : v 9 = .string (PR ++ BY) := hk 9 (by kernel_rfl)
      have h12 : v 12 = .string PO := hk 12 (by kernel_rfl)
      simp only [List.take_succ_cons, List.take_zero, frameF, Act.put, List.setIfInBounds_toArray, List.set_cons_zero, List.set_cons_succ]
      exact stepF_val (by rfl) (by go_simp <;> omega) ⟨rfl, Below.refl _ _, hR⟩
    · refine ⟨fun _ _ _ _ _ h => h, fun _ _ _ _ h _ => h, fun v n x hn hR hk => ?_⟩
      simp only [List.take_succ_cons, List.take_zero, frameF, Act.put, List.setIfInBounds_toArray, List.set_cons_zero, List.set_cons_succ]
      exact stepF_val (by rfl) (by go_simp <;> omega) ⟨rfl, Below.refl _ _, hR⟩
    · refine ⟨fun _ _ _ _ _ h => h, fun _ _ _ _ h _ => h, fun v n x hn hR hk => ?_⟩
      simp only [List.take_succ_cons, List.take_zero, frameF, Act.put, List.setIfInBounds_toArray, List.set_cons_zero, List.set_cons_succ]
      exact stepF_val (by rfl) (by go_simp <;> omega) ⟨rfl, Below.refl _ _, hR⟩
    · refine ⟨fun _ _ _ _ _ h => h, fun _ _ _ _ h _ => h, fun v n x hn hR hk => ?_⟩
      have h14 : v 14 = .string S := hk 14 (by kernel_rfl)
      have h15 : v 15 = iv (i : Int) := hk 15 (by kernel_rfl)
      simp only [List.take_succ_cons, List.take_zero, frameF, Act.put, List.setIfInBounds_toArray, List.set_cons_zero, List.set_cons_succ]
      exact stepF_val (by rfl) (by go_simp <;> omega) ⟨rfl, Below.refl _ _, hR⟩
    · refine ⟨fun _ _ _ _ _ h => h, fun _ _ _ _ h _ => h, fun v n x hn hR hk => ?_⟩
      simp only [List.take_succ_cons, List.take_zero, frameF, Act.put, List.setIfInBounds_toArray, List.set_cons_zero, List.set_cons_succ]
      exact stepF_val (by rfl) (by go_simp <;> omega) ⟨rfl, Below.refl _ _, hR⟩
    · refine ⟨fun _ _ _ _ _ h => h, fun _ _ _ _ h hS => (by obtain ⟨A, h1, h2⟩ := h; exact ⟨A, h1, h2.below hS⟩), fun v n x hn hR hk => ?_⟩
      have h17 : v 17 = .int .u8 (by_ : Int) := hk 17 (by kernel_rfl)
      simp only [List.take_succ_cons, List.take_zero, frameF, Act.put, List.setIfInBounds_toArray, List.set_cons_zero, List.set_cons_succ]
      exact stepF_new (u := .slice (some ⟨x.heap.size, 0, none⟩) 1 1) (w' := x.alloc (.cells #[.int .u8 (by_ : Int)] 5)) (by rfl) (by go_simp) ⟨⟨_, rfl, Sl.fresh byteE x 5 #[.int .u8 (by_ : Int)] [(by_ : Int)] rfl (by simp [maxLen])⟩, (Below.refl _ _).alloc (Nat.le_refl _) _, hR.alloc hR.size _⟩
    · refine ⟨fun _ _ _ _ _ h => h, fun _ _ _ _ h _ => h, fun v n x hn hR hk => ?_⟩
      obtain ⟨A, h18, hsl⟩ : ∃ A, v 18 = .slice A 1 1 ∧ Sl byteE x A [(by_ : Int)] := hk 18 (by kernel_rfl)
      have hcv := conv_run (c := 1) hsl
      simp only [List.length_singleton, hBY] at hcv
      simp only [List.take_succ_cons, List.take_zero, frameF, Act.put, List.setIfInBounds_toArray, List.set_cons_zero, List.set_cons_succ]
      exact stepF_val (by rfl) (by go_simp <;> omega) ⟨rfl, Below.refl _ _, hR⟩
    · refine ⟨fun _ _ _ _ _ h => h, fun _ _ _ _ h _ => h, fun v n x hn hR hk => ?_⟩
      have h16 : v 16 = .string PR := hk 16 (by kernel_rfl)
      have h19 : v 19 = .string BY := hk 19 (by kernel_rfl)
      simp only [List.take_succ_cons, List.take_zero, frameF, Act.put, List.setIfInBounds_toArray, List.set_cons_zero, List.set_cons_succ]
      exact stepF_val (by rfl) (by go_simp <;> omega) ⟨rfl, Below.refl _ _, hR⟩
    · refine ⟨fun _ _ _ _ _ h => h, fun _ _ _ _ h _ => h, fun v n x hn hR hk => ?_⟩
      simp only [List.take_succ_cons, List.take_zero, frameF, Act.put, List.setIfInBounds_toArray, List.set_cons_zero, List.set_cons_succ]
      exact stepF_val (by rfl) (by go_simp <;> omega) ⟨rfl, Below.refl _ _, hR⟩
    · refine ⟨fun _ _ _ _ _ h => h, fun _ _ _ _ h _ => h, fun v n x hn hR hk => ?_⟩
      simp only [List.take_succ_cons, List.take_zero, frameF, Act.put, List.setIfInBounds_toArray, List.set_cons_zero, List.set_cons_succ]
      exact stepF_val (by rfl) (by go_simp <;> omega) ⟨rfl, Below.refl _ _, hR⟩
    · refine ⟨fun _ _ _ _ _ h => h, fun _ _ _ _ h _ => h, fun v n x hn hR hk => ?_⟩
      have h22 : v 22 = iv (i : Int) := hk 22 (by kernel_rfl)
      simp only [List.take_succ_cons, List.take_zero, frameF, Act.put, List.setIfInBounds_toArray, List.set_cons_zero, List.set_cons_succ]
      exact stepF_val (by rfl) (by go_simp <;> omega) ⟨rfl, Below.refl _ _, hR⟩
    · refine ⟨fun _ _ _ _ _ h => h, fun _ _ _ _ h _ => h, fun v n x hn hR hk => ?_⟩
      simp only [List.take_succ_cons, List.take_zero, frameF, Act.put, List.setIfInBounds_toArray, List.set_cons_zero, List.set_cons_succ]
      exact stepF_val (by rfl) (by go_simp <;> omega) ⟨rfl, Below.refl _ _, hR⟩
    · refine ⟨fun _ _ _ _ _ h => h, fun _ _ _ _ h _ => h, fun v n x hn hR hk => ?_⟩
      have h24 : v 24 = .string S := hk 24 (by kernel_rfl)
      simp only [List.take_succ_cons, List.take_zero, frameF, Act.put, List.setIfInBounds_toArray, List.set_cons_zero, List.set_cons_succ]
      exact stepF_val (by rfl) (by go_simp <;> omega) ⟨rfl, Below.refl _ _, hR⟩
    · refine ⟨fun _ _ _ _ _ h => h, fun _ _ _ _ h _ => h, fun v n x hn hR hk => ?_⟩
      have h23 : v 23 = iv ((i : Int) + 1) := hk 23 (by kernel_rfl)
      have h25 : v 25 = iv (S.size : Int) := hk 25 (by kernel_rfl)
      simp only [List.take_succ_cons, List.take_zero, frameF, Act.put, List.setIfInBounds_toArray, List.set_cons_zero, List.set_cons_succ]
      exact stepF_val (by rfl) (by go_simp <;> omega) ⟨rfl, Below.refl _ _, hR⟩
    · refine ⟨fun _ _ _ _ _ h => h, fun _ _ _ _ h _ => h, fun v n x hn hR hk => ?_⟩
      have h21 : v 21 = .string S := hk 21 (by kernel_rfl)
      have h26 : v 26 = iv (m : Int) := hk 26 (by kernel_rfl)
      simp only [List.take_succ_cons, List.take_zero, frameF, Act.put, List.setIfInBounds_toArray, List.set_cons_zero, List.set_cons_succ]
      exact stepF_val (by rfl) (by go_simp <;> omega) ⟨rfl, Below.refl _ _, hR⟩
    · refine ⟨fun _ _ _ _ _ h => h, fun _ _ _ _ h _ => h, fun v n x hn hR hk => ?_⟩
      have h20 : v 20 = .string (PR ++ BY) := hk 20 (by kernel_rfl)
      have h27 : v 27 = .string PM := hk 27 (by kernel_rfl)
      simp only [List.take_succ_cons, List.take_zero, frameF, Act.put, List.setIfInBounds_toArray, List.set_cons_zero, List.set_cons_succ]
      exact stepF_val (by rfl) (by go_simp <;> omega) ⟨rfl, Below.refl _ _, hR⟩
    · refine ⟨fun _ _ _ _ _ h => h, fun _ _ _ _ h _ => h, fun v n x hn hR hk => ?_⟩
      simp only [List.take_succ_cons, List.take_zero, frameF, Act.put, List.setIfInBounds_toArray, List.set_cons_zero, List.set_cons_succ]
      exact stepF_val (by rfl) (by go_simp <;> omega) ⟨rfl, Below.refl _ _, hR⟩
    · refine ⟨fun _ _ _ _ _ h => h, fun _ _ _ _ h _ => h, fun v n x hn hR hk => ?_⟩
      simp only [List.take_succ_cons, List.take_zero, frameF, Act.put, List.setIfInBounds_toArray, List.set_cons_zero, List.set_cons_succ]
      exact stepF_val (by rfl) (by go_simp <;> omega) ⟨rfl, Below.refl _ _, hR⟩
    · refine ⟨fun _ _ _ _ _ h => h, fun _ _ _ _ h _ => h, fun v n x hn hR hk => ?_⟩
      have h29 : v 29 = .string S := hk 29 (by kernel_rfl)
      have h30 : v 30 = iv (i : Int) := hk 30 (by kernel_rfl)
      simp only [List.take_succ_cons, List.take_zero, frameF, Act.put, List.setIfInBounds_toArray, List.set_cons_zero, List.set_cons_succ]
      exact stepF_val (by rfl) (by go_simp <;> omega) ⟨rfl, Below.refl _ _, hR⟩
    · refine ⟨fun _ _ _ _ _ h => h, fun _ _ _ _ h _ => h, fun v n x hn hR hk => ?_⟩
      simp only [List.take_succ_cons, List.take_zero, frameF, Act.put, List.setIfInBounds_toArray, List.set_cons_zero, List.set_cons_succ]
      exact stepF_val (by rfl) (by go_simp <;> omega) ⟨rfl, Below.refl _ _, hR⟩
    · refine ⟨fun _ _ _ _ _ h => h, fun _ _ _ _ h _ => h, fun v n x hn hR hk => ?_⟩
      simp only [List.take_succ_cons, List.take_zero, frameF, Act.put, List.setIfInBounds_toArray, List.set_cons_zero, List.set_cons_succ]
      exact stepF_val (by rfl) (by go_simp <;> omega) ⟨rfl, Below.refl _ _, hR⟩
    · refine ⟨fun _ _ _ _ _ h => h, fun _ _ _ _ h _ => h, fun v n x hn hR hk => ?_⟩
      have h33 : v 33 = iv (i : Int) := hk 33 (by kernel_rfl)
      simp only [List.take_succ_cons, List.take_zero, frameF, Act.put, List.setIfInBounds_toArray, List.set_cons_zero, List.set_cons_succ]
      exact stepF_val (by rfl) (by go_simp <;> omega) ⟨rfl, Below.refl _ _, hR⟩
    · refine ⟨fun _ _ _ _ _ h => h, fun _ _ _ _ h _ => h, fun v n x hn hR hk => ?_⟩
      simp only [List.take_succ_cons, List.take_zero, frameF, Act.put, List.setIfInBounds_toArray, List.set_cons_zero, List.set_cons_succ]
      exact stepF_val (by rfl) (by go_simp <;> omega) ⟨rfl, Below.refl _ _, hR⟩
    · refine ⟨fun _ _ _ _ _ h => h, fun _ _ _ _ h _ => h, fun v n x hn hR hk => ?_⟩
      have h35 : v 35 = .string S := hk 35 (by kernel_rfl)
      simp only [List.take_succ_cons, List.take_zero, frameF, Act.put, List.setIfInBounds_toArray, List.set_cons_zero, List.set_cons_succ]
      exact stepF_val (by rfl) (by go_simp <;> omega) ⟨rfl, Below.refl _ _, hR⟩
    · refine ⟨fun _ _ _ _ _ h => h, fun _ _ _ _ h _ => h, fun v n x hn hR hk => ?_⟩
      have h34 : v 34 = iv ((i : Int) + 1) := hk 34 (by kernel_rfl)
      have h36 : v 36 = iv (S.size : Int) := hk 36 (by kernel_rfl)
      simp only [List.take_succ_cons, List.take_zero, frameF, Act.put, List.setIfInBounds_toArray, List.set_cons_zero, List.set_cons_succ]
      exact stepF_val (by rfl) (by go_simp <;> omega) ⟨rfl, Below.refl _ _, hR⟩
    · refine ⟨fun _ _ _ _ _ h => h, fun _ _ _ _ h _ => h, fun v n x hn hR hk => ?_⟩
      have h32 : v 32 = .string S := hk 32 (by kernel_rfl)
      have h37 : v 37 = iv (m : Int) := hk 37 (by kernel_rfl)
      simp only [List.take_succ_cons, List.take_zero, frameF, Act.put, List.setIfInBounds_toArray, List.set_cons_zero, List.set_cons_succ]
      exact stepF_val (by rfl) (by go_simp <;> omega) ⟨rfl, Below.refl _ _, hR⟩
    · refine ⟨fun _ _ _ _ _ h => h, fun _ _ _ _ h _ => h, fun v n x hn hR hk => ?_⟩
      have h31 : v 31 = .string PR := hk 31 (by kernel_rfl)
      have h38 : v 38 = .string PM := hk 38 (by kernel_rfl)
      simp only [List.take_succ_cons, List.take_zero, frameF, Act.put, List.setIfInBounds_toArray, List.set_cons_zero, List.set_cons_succ]
      exact stepF_val (by rfl) (by go_simp <;> omega) ⟨rfl, Below.refl _ _, hR⟩
    · refine ⟨fun _ _ _ _ _ h => h, fun _ _ _ _ h hS => (by obtain ⟨A, h1, h2⟩ := h; exact ⟨A, h1, h2.below hS⟩), fun v n x hn hR hk => ?_⟩
      have h2 : v 2 = .string PR := hk 2 (by kernel_rfl)
      have h13 : v 13 = .string (PR ++ BY ++ PO) := hk 13 (by kernel_rfl)
      have h28 : v 28 = .string (PR ++ BY ++ PM) := hk 28 (by kernel_rfl)
      have h39 : v 39 = .string (PR ++ PM) := hk 39 (by kernel_rfl)
      simp only [List.take_succ_cons, List.take_zero, frameF, Act.put, List.setIfInBounds_toArray, List.set_cons_zero, List.set_cons_succ]
      exact stepF_new (u := .slice (some ⟨x.heap.size, 0, none⟩) 4 4) (w' := x.alloc (.cells #[.string PR, .string (PR ++ BY ++ PO), .string (PR ++ BY ++ PM), .string (PR ++ PM)] 9)) (by rfl) (by go_simp) ⟨⟨x.heap.size, rfl, Own.ofBlk (xs := [PR, PR ++ BY ++ PO, PR ++ BY ++ PM, PR ++ PM]) (Blk.new _ _ _) hR.size (by simp [maxLen])⟩, (Below.refl _ _).alloc (Nat.le_refl _) _, hR.alloc hR.size _⟩
    · refine ⟨fun _ _ _ _ _ h => h, fun _ _ _ _ h _ => h, fun v n x hn hR hk => ?_⟩
      obtain ⟨g, h40, _⟩ : ∃ g, v 40 = .slice (some ⟨g, 0, none⟩) 4 4 ∧ Own strE 9 w3.heap.size x (.slice (some ⟨g, 0, none⟩) 4 4) [PR, PR ++ BY ++ PO, PR ++ BY ++ PM, PR ++ PM] := hk 40 (by kernel_rfl)
      simp only [List.take_succ_cons, List.take_zero, frameF, Act.put, List.setIfInBounds_toArray, List.set_cons_zero, List.set_cons_succ]
      exact stepF_val (by rfl) (by go_simp <;> omega) ⟨rfl, Below.refl _ _, hR⟩
    · refine ⟨fun _ _ _ _ _ h => h, fun _ _ _ _ h _ => h, fun v n x hn hR hk => ?_⟩
      simp only [List.take_succ_cons, List.take_zero, frameF, Act.put, List.setIfInBounds_toArray, List.set_cons_zero, List.set_cons_succ]
      exact stepF_val (by rfl) (by go_simp <;> omega) ⟨rfl, Below.refl _ _, hR⟩
  · intro v n x hn hR hall
    clear hn
    obtain ⟨g, h40, hown⟩ : ∃ g, v 40 = .slice (some ⟨g, 0, none⟩) 4 4 ∧ Own strE 9 w3.heap.size x (.slice (some ⟨g, 0, none⟩) 4 4) [PR, PR ++ BY ++ PO, PR ++ BY ++ PM, PR ++ PM] := hall 40 (by decide)
    have h41 : v 41 = iv 4 := hall 41 (by decide)
    have h42 : v 42 = iv 0 := hall 42 (by decide)
    clear hall
    simp only [List.drop_succ_cons, List.drop_zero, List.drop_nil, List.take_succ_cons, List.take_zero, frameF, Act.put, List.setIfInBounds_toArray, List.set_cons_zero, List.set_cons_succ, Nat.zero_add, Nat.reduceAdd, h40, h41, h42]
    go_wp2_with fail
    go_loopw [11, 12, 13, 14, 15, 16, 17, 81] (fun _ _ _ _ _ _ _ j wr => ∃ k : Nat, k ≤ 4 ∧ j = iv k ∧ Below w3.heap.size w3 wr ∧ Hid (Own strE 9 w3.heap.size wr (.slice (some ⟨g, 0, none⟩) 4 4) (us.map fun u => File.ba (L.take i ++ u)))) (fun _ _ _ _ _ _ _ j _ => 4 - (intOf j).toNat)
    case atStart => exact ⟨0, by omega, rfl, hR, Lib.hid (by rw [← HTS.out]; exact hown)⟩
    case round =>
      obtain ⟨k, hk, rfl, hbr, HO⟩ := hrel
      by_cases hlt : k < 4
      · have hki : (k : Int) < 4 := by omega
        obtain ⟨b, off, x, hA, hb, hx, hc⟩ := Sl.atS HO.out.sl (k := k) (by rw [List.length_map, hul]; exact hlt)
        cases hA
        rw [Nat.zero_add] at hc
        rw [List.getElem?_map] at hx
        obtain ⟨u, hu, rfl⟩ := Option.map_eq_some_iff.1 hx
        obtain ⟨t, ht⟩ : ∃ t, t = L.take i ++ u := ⟨_, rfl⟩
        have hiL : i ≤ L.length := by rw [← HSZ.out]; exact hi
        have hti : (L.take i).length = i := by rw [List.length_take]; omega
        have htl : t.length = i + u.length := by rw [ht, List.length_append, hti]
        have hul2 := HBYL.out u (mem_at hu)
        have hk0' := HU0.out k u hu
        obtain ⟨hE, hO⟩ := HTORN.out t i hiL (by have := List.take_left (l₁ := L.take i) (l₂ := u); rw [hti] at this; rw [ht, this]) (by omega)
        have hb0r := hb03.next hbr (Nat.le_refl _)
        have hps := parse_spec t wr (by omega) (HT.out.below hb0r)
        rw [← ht] at hc
        obtain ⟨T, hTe⟩ : ∃ T, T = File.ba t := ⟨_, rfl⟩
        have hTz : T.size = t.length := by rw [hTe]; exact ba_size t
        have hTS : T = S ↔ t = L := by
          rw [hTe, HS.out]
          exact ⟨fun h => by have := congrArg File.bts h; rwa [File.bts_ba, File.bts_ba] at this, fun h => by rw [h]⟩
        rw [← hTe] at hc hps
        have HO2 := HO
        clear HO hx ht hti hu
        generalize File.parse t = r at *
        obtain ⟨g', n, e⟩ := r
        simp only at hE hO hps
        by_cases he : e = 0
        · subst he
          obtain ⟨rfl, hck, htx, hiff⟩ := hO rfl
          have hgg := good_of_check hck
          have hgm := hgg.many
          have hiff2 : T = S ↔ f = g' := hTS.trans hiff
          have HPR : Hid (∀ (Ag : Option Addr) (cg : Nat) (W : World), Below wr.heap.size wr W → Sl strE W Ag g' → Calls Tryd.prog 18 #[.slice Ag g'.length cg] W fun e w' => e = .returned (.tuple #[.string T, iv 0]) ∧ Below W.heap.size W w') := Lib.hid fun Ag cg W hW h => by
            have := print_spec Ag g' cg W (by unfold big; omega) h (HT.out.below (hb0r.next hW (Nat.le_refl _)))
            rw [if_pos hck, hck, htx, ← hTe] at this
            exact this
          have hsq := str_eq T S
          clear hE hO hTe htx hck hTS hiff hgg htl hul2 hTz
          go_wp2_with fail
          refine hps.mono ?_
          rintro _ w4 ⟨⟨v', rfl, ho, _⟩, hb4⟩
          simp only at ho
          obtain ⟨Ag, cg, rfl, hcg, _⟩ := ho.form
          go_wp2_with fail
          refine (HPR.out Ag cg w4 hb4 ho.sl).mono ?_
          rintro _ w5 ⟨rfl, hb5⟩
          have hb35 := (hbr.next hb4 (Nat.le_refl _)).next hb5 (Nat.le_refl _)
          have HEQ := Lib.hid (equalS Af f cf Ag g' cg w5 (by unfold big; omega) (HF3.out.below hb35) (by unfold big; omega) (ho.below hb5).sl)
          clear hps HPR ho
          by_cases hfg : f = g'
          all_goals
            first | rw [decide_eq_true hfg] at HEQ | rw [decide_eq_false hfg] at HEQ
            first | rw [decide_eq_true (hiff2.2 hfg)] at hsq | rw [decide_eq_false (fun h => hfg (hiff2.1 h))] at hsq
            clear hiff2 hfg
            go_wp2_with fail
            refine HEQ.out.mono ?_
            rintro _ w6 ⟨rfl, hb6⟩
            go_wp2_with fail
            go_roundw
            case rel => exact ⟨k + 1, by omega, by go_num, hb35.next hb6 (Nat.le_refl _), Lib.hid (((HO2.out.below hb4).below hb5).below hb6)⟩
            case measure => simp [intOf]; omega
        · obtain ⟨rfl, hn, he3, hin⟩ := hE he
          have he0 : (e != 0) = true := by simpa using he
          have hnT : ¬ (T.size : Int) < (n : Int) := by omega
          have hn0 : ¬ (n : Int) < 0 := by omega
          have hmin : min (i : Int) (T.size : Int) = (i : Int) := by omega
          have hni : ¬ (n : Int) < (i : Int) := by omega
          have hk0 : k = 0 → (n : Int) = (T.size : Int) := fun h => by
            have := hk0' h
            rw [this] at htl
            simp at htl
            omega
          clear hE hO hTe hTS
          go_wp2_with fail
          refine hps.mono ?_
          rintro _ w4 ⟨⟨v', rfl, ho, hv⟩, hb4⟩
          obtain rfl := hv he
          clear hps ho hv
          by_cases hkz : k = 0
          · have hknT := hk0 hkz
            have hki0 : ((k : Int) == 0) = true := by simp [hkz]
            rcases he3 with rfl | rfl | rfl
            all_goals
              go_wp2_with fail
              go_roundw
              case rel => exact ⟨k + 1, by omega, by go_num, hbr.next hb4 (Nat.le_refl _), Lib.hid (HO2.out.below hb4)⟩
              case measure => simp [intOf]; omega
          · have hki0 : ((k : Int) == 0) = false := by simp; omega
            rcases he3 with rfl | rfl | rfl
            all_goals
              go_wp2_with fail
              go_roundw
              case rel => exact ⟨k + 1, by omega, by go_num, hbr.next hb4 (Nat.le_refl _), Lib.hid (HO2.out.below hb4)⟩
              case measure => simp [intOf]; omega
      · have hki : ¬ (k : Int) < 4 := by omega
        go_wp2_with fail
        refine (awake_spec wr (HT.out.below (hb03.next hbr (Nat.le_refl _)))).mono ?_
        rintro _ w4 ⟨rfl, hb4⟩
        go_wp2_with fail
        go_ret
        exact ⟨rfl, (hb03.next hbr (Nat.le_refl _)).next hb4 (Nat.le_refl _)⟩
end Fl
end Go.Proofs.YtkhmkpcihphkcaaDoor
