/- The answers of a text. -/
import Derived.Test.YtlhkckgfhlflkaaDoorA17
import Derived.Test.YtlhkckgfhlflkaaDoorC2
namespace Go.Proofs.YtlhkckgfhlflkaaDoor
set_option linter.unusedSimpArgs false
set_option linter.unusedVariables false
set_option linter.unnecessarySimpa false
open Go.RowKit BigFrame

def ansN : Nat → Bs → List Rs × Bs
  | 0, s => ([], s)
  | k + 1, s => match decL s with
    | none => ([], s)
    | some (r, t) => (r :: (ansN k t).1, (ansN k t).2)
theorem decL_lt {s t : Bs} {r : Rs} (h : decL s = some (r, t)) : t.length < s.length := by
  have h1 := decL_form h
  have h2 := enc_pos r
  rw [h1, List.length_append]
  omega
theorem ansN_fuel : ∀ (k m : Nat) (s : Bs), s.length < k → s.length < m → ansN k s = ansN m s
  | 0, _, _, h, _ => by omega
  | k + 1, 0, _, _, h => by omega
  | k + 1, m + 1, s, h1, h2 => by
    unfold ansN
    cases h : decL s with
    | none => rfl
    | some x =>
      obtain ⟨r, t⟩ := x
      have := decL_lt h
      simp only
      rw [ansN_fuel k m t (by omega) (by omega)]
/-- What Answers tells. -/
def ansL (s : Bs) : List Rs × Bs := ansN (s.length + 1) s
theorem ansL_none {s : Bs} (h : decL s = none) : ansL s = ([], s) := by unfold ansL ansN; rw [h]
theorem ansL_some {s t : Bs} {r : Rs} (h : decL s = some (r, t)) : ansL s = (r :: (ansL t).1, (ansL t).2) := by
  have := decL_lt h
  unfold ansL
  conv => lhs; unfold ansN
  rw [h]
  simp only
  rw [ansN_fuel s.length (t.length + 1) t (by omega) (by omega)]
def acells (l : List (Rs × Option Addr × Nat)) : List Value := l.flatMap fun x => x.1.cells x.2.1 x.2.2
/-- A response's fields are there. -/
def FS (w : World) (y : Rs × Option Addr × Nat) : Prop := Sl w 44 2 (.slice y.2.1 y.1.fields.length y.2.2) y.1.fields.length (fcells y.1.fields)
theorem FS.up {w w' : World} {y : Rs × Option Addr × Nat} (h : FS w y) (hu : Upd [] w w') : FS w' y := Sl.upd h hu (by simp)
theorem Sl.apart {w : World} {e1 e2 : TypeId} {s1 s2 n1 n2 : Nat} {v1 v2 : Value} {x1 x2 : List Value} (h1 : Sl w e1 s1 v1 n1 x1) (h2 : Sl w e2 s2 v2 n2 x2) (hne : e1 ≠ e2) : ∀ k, k ∈ ownB v1 → k ∉ ownB v2 := by
  intro k hk hk2
  rcases h1.2 with ⟨rfl, _⟩ | ⟨g, o, cap, cur, rfl, hb, _⟩
  · simp [ownB] at hk
  · simp [ownB] at hk
    subst hk
    exact h2.other hne k hk2 cur hb
def AnsQ (R : List Rs × Bs) (w : World) (e : Ending) (w' : World) : Prop := ∃ v l, e = .returned (.tuple #[v, S R.2]) ∧ Bld w w' 26 4 v l.length (acells l) ∧ l.map (·.1) = R.1 ∧ ∀ x ∈ l, FS w' x
set_option maxRecDepth 100000 in
set_option maxHeartbeats 4000000 in
theorem answers_ok (s : ByteArray) (w : World) (hs : s.size ≤ 800000) (hT : Tab w) :
    Calls Tryd.prog 9 #[.string s] w (AnsQ (ansL s.data.toList) w) := by
  have HT := Hd.mk hT
  obtain ⟨R, hR⟩ : ∃ R, ansL s.data.toList = R := ⟨_, rfl⟩
  have HR := Hd.mk hR
  rw [hR]
  clear hT hR
  go_enter Tryd.func9, Tryd.ntmps9
  go_upto_region 2 with (fail)
  go_loopg [0, 4, 5, 6, 7] (s.size + 1) (fun g s0 s4 s5 s6 s7 wr => ∃ (x : ByteArray) (l : List (Rs × Option Addr × Nat)), g = x.size + 1 ∧ s0 = .string x ∧ l.length + x.size ≤ s.size ∧ Hd (Bld w wr 26 4 s4 l.length (acells l)) ∧ Hd (∀ y ∈ l, FS wr y) ∧ Hd (R = (l.map (·.1) ++ (ansL x.data.toList).1, (ansL x.data.toList).2)))
  case atStart => exact ⟨s, [], rfl, rfl, by simp, Hd.mk (Bld.nil (Upd.refl _ _) _ _), Hd.mk (by simp), Hd.mk (by rw [← HR.out]; rfl)⟩
  case round =>
    obtain ⟨x, l, hg, rfl, hlx, HB, HF, HE⟩ := hrel
    obtain ⟨va, vc, rfl⟩ := HB.out.sl.form
    go_wp2_with fail
    refine (decode_ok x wr (by omega) (HT.out.upd HB.out.upd)).mono ?_
    intro e w3 hd
    cases hdec : decL x.data.toList with
    | none =>
      obtain ⟨rfl, u3⟩ := hd.none_of hdec
      have HE := Hd.mk (show R = (l.map (·.1), x.data.toList) by rw [HE.out, ansL_none hdec]; simp)
      have HB := Hd.mk (HB.out.over u3)
      have HF := Hd.mk (fun y hy => (HF.out y hy).up u3)
      clear hd hdec u3
      simp only [zeroR, S]
      go_wp2_with fail
      go_ret2
      rw [HE.out]
      exact ⟨_, l, congrArg (fun v => Ending.returned (.tuple #[.slice va l.length vc, v])) (S_of rfl), HB.out.over ((Upd.refl [] _).alloc _), rfl, fun y hy => (HF.out y hy).up ((Upd.refl [] _).alloc _)⟩
    | some rt =>
      obtain ⟨r, t⟩ := rt
      obtain ⟨a5, k5, rfl, hrf, u3⟩ := hd.some_sl hdec
      have HE := Hd.mk (show R = ((l ++ [(r, a5, k5)]).map (·.1) ++ (ansL t).1, (ansL t).2) by rw [HE.out, ansL_some hdec]; simp)
      have hlt := decL_lt hdec
      rw [Array.length_toList] at hlt
      have HLT := Hd.mk (show t.length < x.size from hlt)
      have HG := Hd.mk hg
      have HB := Hd.mk (HB.out.over u3)
      have HF := Hd.mk (show ∀ y ∈ l ++ [(r, a5, k5)], FS w3 y from fun y hy => by
        rcases List.mem_append.1 hy with h | h
        · exact (HF.out y h).up u3
        · rw [List.mem_singleton] at h
          subst h
          exact hrf)
      obtain ⟨st, sf, sb, sc⟩ := r
      obtain ⟨tb, htb, htx, htz⟩ : ∃ tb : ByteArray, S t = .string tb ∧ tb.data.toList = t ∧ tb.size = t.length := ⟨⟨t.toArray⟩, rfl, by simp, by simp [ByteArray.size]⟩
      obtain ⟨bd, hbd⟩ : ∃ bd : ByteArray, S sb = .string bd := ⟨⟨sb.toArray⟩, rfl⟩
      have HBD := Hd.mk hbd
      rw [← htx] at HE
      rw [← htz] at HLT
      have hlt := HLT.out
      simp only [Rs.cells, htb, hbd]
      clear hd hdec u3 hrf hg htb htx htz hbd
      go_upto_region 3 with (fail)
      refine wp_abs (fun W => Blk W w3.heap.size [.int .i64 st, .slice a5 sf.length k5, .string bd, .bool sc] 26 ∧ Upd [] w3 W) ⟨Blk.new w3 _ _ _ rfl, (Upd.refl [] w3).alloc _⟩ ?_
      generalize w3.heap.size = rb
      rintro w4 ⟨br, u4⟩
      have HB := Hd.mk (HB.out.over u4)
      have HF := Hd.mk (fun y hy => (HF.out y hy).up u4)
      have c0 := br.cell 0
      have c1 := br.cell 1
      have c2 := br.cell 2
      have c3 := br.cell 3
      simp only [List.getElem?_cons_zero, List.getElem?_cons_succ] at c0 c1 c2 c3
      clear br u4
      have hsl := HB.out.sl
      go_wp2_with (at_builtin; refine wpList_append_row rfl (.tmp 18) (.tmp 20) 22 rfl rfl 26 (.agg #[.int .i64 0, .slice none 0 0, .string ⟨#[]⟩, .bool false]) 4 56 Tryd.underlying22 (by kernel_rfl) rfl _ _ _ rfl hsl [.int .i64 st, .slice a5 sf.length k5, .string bd, .bool sc] rfl rfl rfl (by omega) (by omega) ?_)
      intro v7 w7 s7 u7 o7
      have HF := Hd.mk (fun y hy => Sl.upd (HF.out y hy) u7 (Sl.apart (HF.out y hy) hsl (by decide)))
      have HB7 := Hd.mk (HB.out.app s7 u7 o7)
      obtain ⟨a7, c7, rfl⟩ := s7.form
      clear s7 u7 o7 c0 c1 c2 c3 hsl
      go_wp2_with fail
      go_roundg (tb.size + 1)
      case measure => have := HG.out; omega
      case rel => exact ⟨tb, _, rfl, rfl, by simp; omega, Hd.mk (by
          have := HB7.out
          unfold acells at *
          rw [List.length_append, List.flatMap_append, List.flatMap_singleton, Rs.cells, HBD.out]
          exact this), HF, HE⟩
end Go.Proofs.YtlhkckgfhlflkaaDoor
