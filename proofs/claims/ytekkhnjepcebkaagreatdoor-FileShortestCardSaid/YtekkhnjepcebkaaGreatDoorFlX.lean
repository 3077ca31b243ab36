/- Package petershamlaw11: what the examples' functions answer. -/
import Derived.Test.YtekkhnjepcebkaaGreatDoorFlW
set_option linter.unusedVariables false
set_option linter.unusedSimpArgs false
namespace Go.Proofs.YtekkhnjepcebkaaGreatDoor
namespace Fl
open Go.RowKit Go.ChangeShapes
set_option maxRecDepth 100000
def three : List ByteArray := [⟨#[114, 101, 100, 32, 51]⟩, ⟨#[98, 108, 117, 101, 32, 50]⟩, ⟨#[103, 111, 108, 100]⟩]
def gold : List ByteArray := [⟨#[98, 108, 117, 101, 32, 50]⟩, ⟨#[103, 111, 108, 100]⟩, ⟨#[103, 111, 108, 100]⟩]
def mineJ : List ByteArray := [⟨#[114, 101, 100, 32, 52]⟩, ⟨#[98, 108, 117, 101, 32, 50]⟩, ⟨#[103, 111, 108, 100]⟩]
def yourJ : List ByteArray := [⟨#[114, 101, 100, 32, 51]⟩, ⟨#[103, 114, 101, 121]⟩, ⟨#[98, 108, 117, 101, 32, 50]⟩, ⟨#[103, 111, 108, 100]⟩]
def textF : List UInt8 := [53, 58, 114, 101, 100, 32, 51, 10, 54, 58, 98, 108, 117, 101, 32, 50, 10, 52, 58, 103, 111, 108, 100, 10, 61, 50, 54, 55, 55, 10]
def textT : List UInt8 := [53, 58, 114, 101, 100, 32, 51, 10, 54, 58, 98, 108, 117, 101, 32, 50, 10, 52, 58, 103, 111, 108, 100, 10, 61, 50, 54, 55, 54, 10]
def rows0 : List (List Int) := [[0, 0, 0], [1, 0, 0], [0, 2, 2]]
theorem aw_check : File.check three = 0 := by kernel_rfl
theorem aw_check2 : File.check gold = 0 := by kernel_rfl
theorem aw_text : File.text three = textT := by kernel_rfl
theorem aw_parse : File.parse textF = ([], 28, 8) := by kernel_rfl
theorem aw_err : errOf three gold = 0 := by kernel_rfl
theorem aw_diff : File.diff three gold = [⟨0, [⟨#[114, 101, 100, 32, 51]⟩], []⟩, ⟨3, [], [⟨#[103, 111, 108, 100]⟩]⟩] := by kernel_rfl
theorem aw_bound : boundOf three gold rows0 = (2, 0) := by kernel_rfl
theorem aw_alike : alikeOf three gold = (2, 3, 0) := by kernel_rfl
theorem aw_join : File.joinAns three mineJ yourJ = (0, three, [(0, 1)]) := by kernel_rfl
theorem three_spec (w : World) : Calls Tryz.prog 62 #[] w fun e w' => ∃ A, e = .returned (.slice A 3 3) ∧ Sl strE w' A three ∧ Below w.heap.size w w' := by
  go_enter Tryz.func62, Tryz.ntmps62
  go_wp2
  go_ret
  exact ⟨_, rfl, Sl.fresh strE w 9 _ three rfl (by decide), (Below.refl _ _).alloc (Nat.le_refl _) _⟩
theorem gold_spec (w : World) : Calls Tryz.prog 68 #[] w fun e w' => ∃ A, e = .returned (.slice A 3 3) ∧ Sl strE w' A gold ∧ Below w.heap.size w w' := by
  go_enter Tryz.func68, Tryz.ntmps68
  go_wp2
  go_ret
  exact ⟨_, rfl, Sl.fresh strE w 9 _ gold rfl (by decide), (Below.refl _ _).alloc (Nat.le_refl _) _⟩
theorem print3 (A : Option Addr) (w : World) (hs : Sl strE w A three) (ht : Tab w) : Calls Tryz.prog 46 #[.slice A 3 3] w fun e w' => e = .returned (.tuple #[.string ⟨#[53, 58, 114, 101, 100, 32, 51, 10, 54, 58, 98, 108, 117, 101, 32, 50, 10, 52, 58, 103, 111, 108, 100, 10, 61, 50, 54, 55, 54, 10]⟩, iv 0]) ∧ Below w.heap.size w w' := by
  have := print_spec A three 3 w (by decide) hs ht
  rw [aw_check, if_pos rfl, aw_text] at this
  exact this
theorem parse28 (w : World) (ht : Tab w) : Calls Tryz.prog 47 #[.string ⟨#[53, 58, 114, 101, 100, 32, 51, 10, 54, 58, 98, 108, 117, 101, 32, 50, 10, 52, 58, 103, 111, 108, 100, 10, 61, 50, 54, 55, 55, 10]⟩] w fun e w' => ∃ v, e = .returned (.tuple #[v, iv 28, iv 8]) ∧ Below w.heap.size w w' := by
  refine (parse_spec textF w (by decide) ht).mono ?_
  rintro e w' ⟨⟨v, rfl, _, _⟩, hb⟩
  rw [aw_parse]
  exact ⟨v, rfl, hb⟩
theorem diffTG (A A' : Option Addr) (w : World) (hs : Sl strE w A three) (hs' : Sl strE w A' gold) : Calls Tryz.prog 30 #[.slice A 3 3, .slice A' 3 3] w fun e w' => ∃ C d, ∃ vs : List EdV, e = .returned (.tuple #[.slice C vs.length d, iv 0]) ∧ Sl edE w' C vs ∧ (∀ r ∈ vs, EdOk w' r ∧ r.old.length ≤ big ∧ r.new.length ≤ big) ∧ vs.map EdV.ed = [⟨0, [⟨#[114, 101, 100, 32, 51]⟩], []⟩, ⟨3, [], [⟨#[103, 111, 108, 100]⟩]⟩] ∧ Below w.heap.size w w' := by
  refine (Diff_spec A three 3 A' gold 3 w (by decide) (by decide) (by decide) (by decide) hs hs').mono ?_
  rintro e w' ⟨v, rs, rfl, hv, hr, hb⟩
  rw [aw_err, if_pos rfl, aw_diff] at hr
  obtain ⟨vs, h1, h2, h3, h4⟩ := eds_of hr
  have ho := own_eds hv h3 h4
  obtain ⟨C, d, rfl, _, _⟩ := ho.form
  refine ⟨C, d, vs, by rw [aw_err], ho.sl, fun r hr => ?_, h1, hb⟩
  have hm : r.ed ∈ vs.map EdV.ed := List.mem_map_of_mem hr
  have hb : ∀ x ∈ vs.map EdV.ed, x.old.length ≤ big ∧ x.new.length ≤ big := by rw [h1]; decide
  exact ⟨h2 r hr, (hb _ hm).1, (hb _ hm).2⟩
theorem boundTG (A A' B : Option Addr) (rs : List (Rw Int)) (w : World) (hs : Sl strE w A three) (hs' : Sl strE w A' gold) (hb : Sl (rwE Int) w B rs) (hr : RowsR intE w rs) (hx : rs.map Rw.xs = rows0) : Calls Tryz.prog 50 #[.slice A 3 3, .slice A' 3 3, .slice B 3 3] w fun e w' => e = .returned (.tuple #[iv 2, iv 0]) ∧ Below w.heap.size w w' := by
  have hl : rs.length = 3 := by have := congrArg List.length hx; rwa [List.length_map] at this
  have := Bound_spec A three 3 A' gold 3 B rs 3 w (by decide) (by decide) (by rw [hl]; decide) (fun r hr => ?_) (by decide) (by decide) (by rw [hl]; decide) hs hs' hb hr
  · rw [hx, aw_bound, hl] at this
    exact this
  · have hm : r.xs ∈ rs.map Rw.xs := List.mem_map_of_mem hr
    have hb : ∀ x ∈ rs.map Rw.xs, x.length ≤ big := by rw [hx]; decide
    exact hb _ hm
theorem alikeTG (A A' : Option Addr) (w : World) (hs : Sl strE w A three) (hs' : Sl strE w A' gold) : Calls Tryz.prog 75 #[.slice A 3 3, .slice A' 3 3] w fun e w' => e = .returned (.tuple #[.agg #[iv 2, iv 3], iv 0]) ∧ Below w.heap.size w w' := by
  have := Alike_spec A three 3 A' gold 3 w (by decide) (by decide) hs hs'
  rw [aw_alike] at this
  exact this
theorem joinTG (Ab A A' : Option Addr) (w : World) (hB : Sl strE w Ab three) (hs : Sl strE w A mineJ) (hs' : Sl strE w A' yourJ) : Calls Tryz.prog 16 #[.slice Ab 3 3, .slice A 3 3, .slice A' 4 4] w fun e w' => ∃ C d C' d', e = .returned (.tuple #[.slice C 3 d, .slice C' 1 d', iv 0]) ∧ Sl strE w' C three ∧ Sl pairE w' C' [(0, 1)] ∧ Below w.heap.size w w' := by
  refine (Join_spec Ab three 3 A mineJ 3 A' yourJ 4 w (by decide) (by decide) (by decide) (by decide) (by decide) (by decide) hB hs hs').mono ?_
  rintro e w' ⟨v0, v1, rfl, h0, h1, hb⟩
  rw [aw_join] at h0 h1 ⊢
  obtain ⟨C, d, rfl, _, _⟩ := h0.form
  obtain ⟨C', d', rfl, _, _⟩ := h1.form
  exact ⟨C, d, C', d', rfl, h0.sl, h1.sl, hb⟩
end Fl
end Go.Proofs.YtekkhnjepcebkaaGreatDoor
