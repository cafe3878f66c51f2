/-
  Small words: the element type of lists of texts; the order of texts as the walk writes it.
-/
import Derived.Test.YtfbmcfdmffpfmaaWords
import Derived.Test.YtfbmcfdmffpfmaaFac
namespace Go.Proofs.Ytfbmcfdmffpfmaa
open Go.RowKit
theorem Try.infoXs : (Try.prog.info? 9).map (fun i => (i.zero, i.size, i.bytes)) = some (some (.string ⟨#[]⟩), 1, 16) := by kernel_rfl
theorem bless_ : ∀ (x y : List UInt8), Op.bytesLess x y = decide (x < y)
  | [], [] => by simp [Op.bytesLess]
  | _ :: _, [] => by simp [Op.bytesLess]
  | [], _ :: _ => by simp [Op.bytesLess]
  | a :: x, b :: y => by
    rw [Op.bytesLess, bless_ x y, Bool.eq_iff_iff]
    simp [List.cons_lt_cons_iff]
theorem bless_lt {x y : List UInt8} (h : Op.bytesLess x y = true) : x < y := by rw [bless_] at h; simpa using h
theorem bless_nlt {x y : List UInt8} (h : Op.bytesLess x y = false) : ¬ x < y := by rw [bless_] at h; simpa using h
theorem bless_le {x y : List UInt8} (h : Op.bytesLess x y = false) : y ≤ x := List.not_lt.1 (bless_nlt h)
theorem bless_nle {x y : List UInt8} (h : Op.bytesLess x y = true) : ¬ y ≤ x := fun h2 => by
  have := bless_lt h
  exact absurd (tlt_of_le_of_lt h2 this) (List.lt_irrefl y)
theorem bleq_ (x y : List UInt8) : (Op.bytesLess x y || x == y) = decide (x ≤ y) := by
  rw [bless_, Bool.eq_iff_iff, Bool.or_eq_true, decide_eq_true_iff, decide_eq_true_iff, beq_iff_eq]
  constructor
  · rintro (h | h)
    · exact tle_of_lt h
    · subst h; exact List.le_refl _
  · intro h
    by_cases e : x = y
    · exact .inr e
    · exact .inl (tlt_of_le_ne h e)
theorem bleq_le {x y : List UInt8} (h : (Op.bytesLess x y || x == y) = true) : x ≤ y := by rw [bleq_] at h; simpa using h
theorem bleq_nle {x y : List UInt8} (h : (Op.bytesLess x y || x == y) = false) : ¬ x ≤ y := by rw [bleq_] at h; simpa using h
end Go.Proofs.Ytfbmcfdmffpfmaa
