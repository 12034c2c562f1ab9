/- Whole numbers as floats, a zero of either sign; what sums, products and comparisons of small ones give. -/
import Derived.WalkKit
import Derived.WalkLawsBesides
namespace Go.Proofs.YtljleibefijkkaaDoor
set_option linter.unusedSimpArgs false
set_option linter.unusedVariables false
set_option linter.unnecessarySimpa false

/-- The words of a small whole number: two of nought. -/
def zs (n : Int) : List Nat := if n = 0 then [0, 9223372036854775808] else [floatOfInt .f64 n]
/-- The word b stands for n. -/
def Z (b : Nat) (n : Int) : Prop := b ∈ zs n
theorem Z.of (n : Int) : Z (floatOfInt .f64 n) n := by
  unfold Z zs
  split
  · rename_i h; subst h; exact List.mem_cons.2 (.inl (by decide +kernel))
  · exact List.mem_singleton.2 rfl

def small (k : Nat) (n : Int) : Prop := -(k : Int) ≤ n ∧ n ≤ k

def both (p : Nat → Nat → Bool) (i j : Int) : Bool := (zs i).all fun a => (zs j).all fun b => p a b
theorem both_out {p : Nat → Nat → Bool} {i j : Int} (h : both p i j = true) {a b : Nat} (ha : Z a i) (hb : Z b j) : p a b = true :=
  List.all_eq_true.1 (List.all_eq_true.1 h a ha) b hb
def rng (k : Nat) (f : Int → Bool) : Bool := (List.range (2 * k + 1)).all fun i => f ((i : Int) - k)
theorem rng_out {k : Nat} {f : Int → Bool} (h : rng k f = true) {n : Int} (hn : small k n) : f n = true := by
  have := List.all_eq_true.1 h (n + k).toNat (by simp; unfold small at hn; omega)
  rw [show (((n + k).toNat : Nat) : Int) - k = n by unfold small at hn; omega] at this
  exact this
def isW (o : Option Nat) (n : Int) : Bool := match o with | some r => (zs n).contains r | none => false
theorem isW_out {o : Option Nat} {n : Int} (h : isW o n = true) : ∃ r, o = some r ∧ Z r n := by
  cases o with
  | none => cases h
  | some r => exact ⟨r, rfl, by unfold Z; simpa [isW] using h⟩

theorem chk_add : (rng 41 fun n => rng 1 fun m => both (fun a b => isW (floatBits .add .f64 a b) (n + m) && isW (floatBits .sub .f64 a b) (n - m)) n m) = true := by decide +kernel
theorem chk_add0 : (rng 1 fun n => rng 41 fun m => both (fun a b => isW (floatBits .add .f64 a b) (n + m) && isW (floatBits .sub .f64 a b) (n - m)) n m) = true := by decide +kernel
theorem chk_mul : (rng 41 fun n => rng 1 fun m => both (fun a b => isW (floatBits .mul .f64 a b) (n * m)) n m) = true := by decide +kernel
theorem chk_cmp : (rng 41 fun n => rng 41 fun m => both (fun a b => (FloatKind.f64.format.order a b == some .eq) == decide (n = m)) n m) = true := by decide +kernel
theorem chk_int : (rng 41 fun n => (zs n).all fun a => floatToIntVal .f64 a .i64 == some n) = true := by decide +kernel

theorem Z.add {a b : Nat} {n m : Int} (ha : Z a n) (hb : Z b m) (h : small 41 n ∧ small 1 m ∨ small 1 n ∧ small 41 m) : ∃ r, floatBits .add .f64 a b = some r ∧ Z r (n + m) := by
  refine isW_out ?_
  rcases h with ⟨h1, h2⟩ | ⟨h1, h2⟩
  · exact (Bool.and_eq_true_iff.1 (both_out (rng_out (rng_out chk_add h1) h2) ha hb)).1
  · exact (Bool.and_eq_true_iff.1 (both_out (rng_out (rng_out chk_add0 h1) h2) ha hb)).1
theorem Z.sub {a b : Nat} {n m : Int} (ha : Z a n) (hb : Z b m) (h : small 41 n ∧ small 1 m ∨ small 1 n ∧ small 41 m) : ∃ r, floatBits .sub .f64 a b = some r ∧ Z r (n - m) := by
  refine isW_out ?_
  rcases h with ⟨h1, h2⟩ | ⟨h1, h2⟩
  · exact (Bool.and_eq_true_iff.1 (both_out (rng_out (rng_out chk_add h1) h2) ha hb)).2
  · exact (Bool.and_eq_true_iff.1 (both_out (rng_out (rng_out chk_add0 h1) h2) ha hb)).2
theorem Z.mul {a b : Nat} {n m : Int} (ha : Z a n) (hb : Z b m) (h1 : small 41 n) (h2 : small 1 m) : ∃ r, floatBits .mul .f64 a b = some r ∧ Z r (n * m) :=
  isW_out (both_out (rng_out (rng_out chk_mul h1) h2) ha hb)
theorem Z.cmp {a b : Nat} {n m : Int} (ha : Z a n) (hb : Z b m) (h1 : small 41 n) (h2 : small 41 m) : (FloatKind.f64.format.order a b == some .eq) = decide (n = m) := by
  simpa using both_out (rng_out (rng_out chk_cmp h1) h2) ha hb
theorem Z.int {a : Nat} {n : Int} (ha : Z a n) (h1 : small 41 n) : floatToIntVal .f64 a .i64 = some n := by
  simpa using List.all_eq_true.1 (rng_out chk_int h1) a ha
theorem Z.csum {a b c d : Nat} {n m k l : Int} (ha : Z a n) (hb : Z b m) (hc : Z c k) (hd : Z d l) (h1 : small 41 n) (h2 : small 41 m) (h3 : small 1 k) (h4 : small 1 l) :
    ∃ re im, cSumBits .add .f64 a b c d = some (re, im) ∧ Z re (n + k) ∧ Z im (m + l) := by
  obtain ⟨r, hr, zr⟩ := ha.add hc (.inl ⟨h1, h3⟩)
  obtain ⟨i, hi, zi⟩ := hb.add hd (.inl ⟨h2, h4⟩)
  exact ⟨r, i, by simp [cSumBits, hr, hi], zr, zi⟩
theorem Z.csub {a b c d : Nat} {n m k l : Int} (ha : Z a n) (hb : Z b m) (hc : Z c k) (hd : Z d l) (h1 : small 41 n) (h2 : small 41 m) (h3 : small 1 k) (h4 : small 1 l) :
    ∃ re im, cSumBits .sub .f64 a b c d = some (re, im) ∧ Z re (n - k) ∧ Z im (m - l) := by
  obtain ⟨r, hr, zr⟩ := ha.sub hc (.inl ⟨h1, h3⟩)
  obtain ⟨i, hi, zi⟩ := hb.sub hd (.inl ⟨h2, h4⟩)
  exact ⟨r, i, by simp [cSumBits, hr, hi], zr, zi⟩
/-- A product by a unit along one of the axes. -/
theorem Z.cmul {a b c d : Nat} {n m k l : Int} (ha : Z a n) (hb : Z b m) (hc : Z c k) (hd : Z d l) (h1 : small 41 n) (h2 : small 41 m) (hu : small 1 k ∧ l = 0 ∨ k = 0 ∧ small 1 l) :
    ∃ re im, cMulBits a b c d = some (re, im) ∧ Z re (n * k - m * l) ∧ Z im (n * l + m * k) := by
  have h3 : small 1 k := by unfold small at hu ⊢; omega
  have h4 : small 1 l := by unfold small at hu ⊢; omega
  obtain ⟨ac, e1, z1⟩ := ha.mul hc h1 h3
  obtain ⟨bd, e2, z2⟩ := hb.mul hd h2 h4
  obtain ⟨ad, e3, z3⟩ := ha.mul hd h1 h4
  obtain ⟨bc, e4, z4⟩ := hb.mul hc h2 h3
  have key : ∀ x y : Int, small 41 x → small 1 y → small 41 (x * y) := by
    intro x y hx hy
    have hy' : y = -1 ∨ y = 0 ∨ y = 1 := by unfold small at hy; omega
    unfold small at hx ⊢
    rcases hy' with rfl | rfl | rfl <;> simp <;> omega
  have s0 : small 1 (0 : Int) := by unfold small; omega
  obtain ⟨re, e5, z5⟩ := z1.sub z2 (by
    rcases hu with ⟨_, rfl⟩ | ⟨rfl, _⟩
    · left; exact ⟨key _ _ h1 h3, by simpa using s0⟩
    · right; exact ⟨by simpa using s0, key _ _ h2 h4⟩)
  obtain ⟨im, e6, z6⟩ := z3.add z4 (by
    rcases hu with ⟨_, rfl⟩ | ⟨rfl, _⟩
    · right; exact ⟨by simpa using s0, key _ _ h2 h3⟩
    · left; exact ⟨key _ _ h1 h4, by simpa using s0⟩)
  exact ⟨re, im, by simp [cMulBits, e1, e2, e3, e4, e5, e6], z5, z6⟩
end Go.Proofs.YtljleibefijkkaaDoor
