/- Sold, of the statements: a sale and a stock out of a spool. Conditions: lengths are below a great bound; the list is not the spool. -/
import Derived.Test.YtkailkfiakagfaaGreatLawW
import Derived.Test.YtkailkfiakagfaaGreatPriceV
import Derived.Test.YtkailkfiakagfaaGreatStep
set_option linter.unusedVariables false
set_option linter.unusedSimpArgs false
namespace Go.Proofs.YtkailkfiakagfaaGreat
open Go.RowKit Go.Shelf
set_option maxRecDepth 100000

/-- No row of the slice at A is block g. -/
def Far (g : Nat) (A : Option Addr) : Prop := ∀ b off s, A = some ⟨b, off, s⟩ → b ≠ g
theorem Sl.only {α : Type} {E : Enc α} {w w' : World} {A : Option Addr} {xs : List α} {g : Nat} (h : Sl E w A xs) (hf : Far g A) (ho : Only g w w') : Sl E w' A xs := fun hx => by
  obtain ⟨b, off, hA, hb, hc⟩ := h hx
  have hk := ho.other b hb (hf b off none hA)
  exact ⟨b, off, hA, Nat.lt_of_lt_of_le hb ho.below.size, fun i x hi j u hu => by rw [World.cell?_of_block (w := w) hk]; exact hc i x hi j u hu⟩
theorem Blk.only {w w' : World} {b g : Nat} {t : TypeId} {cs : Array Value} (h : Blk w b t cs) (hg : b ≠ g) (ho : Only g w w') : Blk w' b t cs := (ho.other b h.lt hg).trans h
theorem Own.only {α : Type} {E : Enc α} {e : TypeId} {B : Nat} {w w' : World} {v : Value} {xs : List α} {g : Nat} (h : Own E e B w v xs) (hg : g < B) (ho : Only g w w') : Own E e B w' v xs :=
  h.keep ho.below.size fun b hb => ho.other b (h.lt b hb).2 (by have := (h.lt b hb).1; omega)
end Go.Proofs.YtkailkfiakagfaaGreat
