/- AnswerWords: each status that is known has its words, others are unknown. Printed by gen_A10.py. -/
import Derived.Test.YtgmpahdagbelfaaDoorA8
import Derived.Test.YtgmpahdagbelfaaDoorMk
namespace Go.Proofs.YtgmpahdagbelfaaDoor
set_option linter.unusedSimpArgs false
set_option linter.unusedVariables false
set_option linter.unnecessarySimpa false
open Go.RowKit BigFrame

def MW (w : World) (r : Nat) (m : Int → Option ByteArray) : Prop := ∃ L : List (Int × Value × Nat), Mp w r (fun k => .int .i64 k) L ∧ ∀ q, get L q = (m q).map .string
def putf (m : Int → Option ByteArray) (k : Int) (v : ByteArray) : Int → Option ByteArray := fun q => if q = k then some v else m q
theorem MW.put {w : World} {r : Nat} {m : Int → Option ByteArray} (h : MW w r m) (k : Int) (v : ByteArray) : ∃ w', (Instr.mapUpdate 23 (.map (some r)) (.int .i64 k) (.string v)).run Tryd.prog w = .ok () w' ∧ MW w' r (putf m k v) ∧ Upd [r] w w' := by
  obtain ⟨L, h1, h2⟩ := h
  obtain ⟨c, w', hr, h3, h4⟩ := run_update_mp (P := Tryd.prog) (keyLaw_int (kt := 3) Tryd.underlying3) 23 Tryd.underlying23 h1 k (.string v)
  refine ⟨w', hr, ⟨_, h3, fun q => ?_⟩, h4⟩
  rw [get_put, h2 q]
  unfold putf
  split <;> rfl
theorem MW.look {w : World} {r : Nat} {m : Int → Option ByteArray} (h : MW w r m) (k : Int) : (Instr.lookup 23 (.map (some r)) (.int .i64 k) true).run Tryd.prog w = .ok (.tuple #[.string ((m k).getD ⟨#[]⟩), .bool (m k).isSome]) w := by
  obtain ⟨L, h1, h2⟩ := h
  rw [run_lookup_mp (P := Tryd.prog) (keyLaw_int (kt := 3) Tryd.underlying3) 23 Tryd.underlying23 (.string ⟨#[]⟩) (fun W => by kernel_rfl) h1 k true, h2]
  cases m k <;> rfl
def fw0 : Int → Option ByteArray := fun _ => none
def fw1 : Int → Option ByteArray := putf fw0 200 (⟨#[79, 75]⟩ : ByteArray)
def fw2 : Int → Option ByteArray := putf fw1 201 (⟨#[67, 114, 101, 97, 116, 101, 100]⟩ : ByteArray)
def fw3 : Int → Option ByteArray := putf fw2 400 (⟨#[66, 97, 100, 32, 82, 101, 113, 117, 101, 115, 116]⟩ : ByteArray)
def fw4 : Int → Option ByteArray := putf fw3 401 (⟨#[85, 110, 97, 117, 116, 104, 111, 114, 105, 122, 101, 100]⟩ : ByteArray)
def fw5 : Int → Option ByteArray := putf fw4 404 (⟨#[78, 111, 116, 32, 70, 111, 117, 110, 100]⟩ : ByteArray)
def fw6 : Int → Option ByteArray := putf fw5 405 (⟨#[77, 101, 116, 104, 111, 100, 32, 78, 111, 116, 32, 65, 108, 108, 111, 119, 101, 100]⟩ : ByteArray)
def fw7 : Int → Option ByteArray := putf fw6 409 (⟨#[67, 111, 110, 102, 108, 105, 99, 116]⟩ : ByteArray)
def fw8 : Int → Option ByteArray := putf fw7 412 (⟨#[80, 114, 101, 99, 111, 110, 100, 105, 116, 105, 111, 110, 32, 70, 97, 105, 108, 101, 100]⟩ : ByteArray)
def fw9 : Int → Option ByteArray := putf fw8 413 (⟨#[67, 111, 110, 116, 101, 110, 116, 32, 84, 111, 111, 32, 76, 97, 114, 103, 101]⟩ : ByteArray)
def fw10 : Int → Option ByteArray := putf fw9 431 (⟨#[82, 101, 113, 117, 101, 115, 116, 32, 72, 101, 97, 100, 101, 114, 32, 70, 105, 101, 108, 100, 115, 32, 84, 111, 111, 32, 76, 97, 114, 103, 101]⟩ : ByteArray)
def fw11 : Int → Option ByteArray := putf fw10 500 (⟨#[73, 110, 116, 101, 114, 110, 97, 108, 32, 83, 101, 114, 118, 101, 114, 32, 69, 114, 114, 111, 114]⟩ : ByteArray)
def fw12 : Int → Option ByteArray := putf fw11 501 (⟨#[78, 111, 116, 32, 73, 109, 112, 108, 101, 109, 101, 110, 116, 101, 100]⟩ : ByteArray)
def fw13 : Int → Option ByteArray := putf fw12 503 (⟨#[83, 101, 114, 118, 105, 99, 101, 32, 85, 110, 97, 118, 97, 105, 108, 97, 98, 108, 101]⟩ : ByteArray)
def fw14 : Int → Option ByteArray := putf fw13 507 (⟨#[73, 110, 115, 117, 102, 102, 105, 99, 105, 101, 110, 116, 32, 83, 116, 111, 114, 97, 103, 101]⟩ : ByteArray)
theorem fw_words (n : Int) : fw14 n = some ⟨(wordL n.toNat).toArray⟩ ∨ fw14 n = none ∧ wordL n.toNat = [85, 110, 107, 110, 111, 119, 110] := by
  by_cases e200 : n = 200
  · left; subst e200; rfl
  by_cases e201 : n = 201
  · left; subst e201; rfl
  by_cases e400 : n = 400
  · left; subst e400; rfl
  by_cases e401 : n = 401
  · left; subst e401; rfl
  by_cases e404 : n = 404
  · left; subst e404; rfl
  by_cases e405 : n = 405
  · left; subst e405; rfl
  by_cases e409 : n = 409
  · left; subst e409; rfl
  by_cases e412 : n = 412
  · left; subst e412; rfl
  by_cases e413 : n = 413
  · left; subst e413; rfl
  by_cases e431 : n = 431
  · left; subst e431; rfl
  by_cases e500 : n = 500
  · left; subst e500; rfl
  by_cases e501 : n = 501
  · left; subst e501; rfl
  by_cases e503 : n = 503
  · left; subst e503; rfl
  by_cases e507 : n = 507
  · left; subst e507; rfl
  right
  refine ⟨?_, ?_⟩
  · unfold fw14 fw13 fw12 fw11 fw10 fw9 fw8 fw7 fw6 fw5 fw4 fw3 fw2 fw1 fw0 putf
    simp only [if_neg e507, if_neg e503, if_neg e501, if_neg e500, if_neg e431, if_neg e413, if_neg e412, if_neg e409, if_neg e405, if_neg e404, if_neg e401, if_neg e400, if_neg e201, if_neg e200]
  · unfold wordL
    rw [if_neg (by omega), if_neg (by omega), if_neg (by omega), if_neg (by omega), if_neg (by omega), if_neg (by omega), if_neg (by omega), if_neg (by omega), if_neg (by omega), if_neg (by omega), if_neg (by omega), if_neg (by omega), if_neg (by omega), if_neg (by omega)]

set_option maxHeartbeats 4000000 in
theorem words_walk (n : Int) (w : World) (hT : Tab w) :
    Calls Tryd.prog 3 #[.int .i64 n] w fun e w' => e = .returned (.bool true) ∧ Upd [] w w' := by
  have HT := Hd.mk hT
  clear hT
  go_enter Tryd.func3, Tryd.ntmps3
  go_wp2_with fail
  refine (fit_ok w HT.out).mono ?_
  rintro e w1 ⟨rfl, u1⟩
  have m0 : MW (w1.alloc (.map #[] 0)) w1.heap.size fw0 := ⟨[], Mp.new w1 _, fun q => rfl⟩
  have HU := Hd.mk (u1.alloc (.map #[] 0))
  have HS := Hd.mk u1.size
  have hmm := @run_makeMap Tryd.prog
  clear u1
  obtain ⟨x1, r1, m1, v1⟩ := m0.put 200 (⟨#[79, 75]⟩ : ByteArray)
  obtain ⟨x2, r2, m2, v2⟩ := m1.put 201 (⟨#[67, 114, 101, 97, 116, 101, 100]⟩ : ByteArray)
  obtain ⟨x3, r3, m3, v3⟩ := m2.put 400 (⟨#[66, 97, 100, 32, 82, 101, 113, 117, 101, 115, 116]⟩ : ByteArray)
  obtain ⟨x4, r4, m4, v4⟩ := m3.put 401 (⟨#[85, 110, 97, 117, 116, 104, 111, 114, 105, 122, 101, 100]⟩ : ByteArray)
  obtain ⟨x5, r5, m5, v5⟩ := m4.put 404 (⟨#[78, 111, 116, 32, 70, 111, 117, 110, 100]⟩ : ByteArray)
  obtain ⟨x6, r6, m6, v6⟩ := m5.put 405 (⟨#[77, 101, 116, 104, 111, 100, 32, 78, 111, 116, 32, 65, 108, 108, 111, 119, 101, 100]⟩ : ByteArray)
  obtain ⟨x7, r7, m7, v7⟩ := m6.put 409 (⟨#[67, 111, 110, 102, 108, 105, 99, 116]⟩ : ByteArray)
  obtain ⟨x8, r8, m8, v8⟩ := m7.put 412 (⟨#[80, 114, 101, 99, 111, 110, 100, 105, 116, 105, 111, 110, 32, 70, 97, 105, 108, 101, 100]⟩ : ByteArray)
  obtain ⟨x9, r9, m9, v9⟩ := m8.put 413 (⟨#[67, 111, 110, 116, 101, 110, 116, 32, 84, 111, 111, 32, 76, 97, 114, 103, 101]⟩ : ByteArray)
  obtain ⟨x10, r10, m10, v10⟩ := m9.put 431 (⟨#[82, 101, 113, 117, 101, 115, 116, 32, 72, 101, 97, 100, 101, 114, 32, 70, 105, 101, 108, 100, 115, 32, 84, 111, 111, 32, 76, 97, 114, 103, 101]⟩ : ByteArray)
  obtain ⟨x11, r11, m11, v11⟩ := m10.put 500 (⟨#[73, 110, 116, 101, 114, 110, 97, 108, 32, 83, 101, 114, 118, 101, 114, 32, 69, 114, 114, 111, 114]⟩ : ByteArray)
  obtain ⟨x12, r12, m12, v12⟩ := m11.put 501 (⟨#[78, 111, 116, 32, 73, 109, 112, 108, 101, 109, 101, 110, 116, 101, 100]⟩ : ByteArray)
  obtain ⟨x13, r13, m13, v13⟩ := m12.put 503 (⟨#[83, 101, 114, 118, 105, 99, 101, 32, 85, 110, 97, 118, 97, 105, 108, 97, 98, 108, 101]⟩ : ByteArray)
  obtain ⟨x14, r14, m14, v14⟩ := m13.put 507 (⟨#[73, 110, 115, 117, 102, 102, 105, 99, 105, 101, 110, 116, 32, 83, 116, 111, 114, 97, 103, 101]⟩ : ByteArray)
  have HV := Hd.mk (((((((((((((((HU.out.trans v1 (fun k hk e => by have := HS.out; simp at e; omega)).trans v2 (fun k hk e => by have := HS.out; simp at e; omega)).trans v3 (fun k hk e => by have := HS.out; simp at e; omega)).trans v4 (fun k hk e => by have := HS.out; simp at e; omega)).trans v5 (fun k hk e => by have := HS.out; simp at e; omega)).trans v6 (fun k hk e => by have := HS.out; simp at e; omega)).trans v7 (fun k hk e => by have := HS.out; simp at e; omega)).trans v8 (fun k hk e => by have := HS.out; simp at e; omega)).trans v9 (fun k hk e => by have := HS.out; simp at e; omega)).trans v10 (fun k hk e => by have := HS.out; simp at e; omega)).trans v11 (fun k hk e => by have := HS.out; simp at e; omega)).trans v12 (fun k hk e => by have := HS.out; simp at e; omega)).trans v13 (fun k hk e => by have := HS.out; simp at e; omega)).trans v14 (fun k hk e => by have := HS.out; simp at e; omega)))
  have HM := Hd.mk m14
  have hlk := MW.look (m := fw14) m14 n
  clear m0 m1 m2 m3 m4 m5 m6 m7 m8 m9 m10 m11 m12 m13 m14 v1 v2 v3 v4 v5 v6 v7 v8 v9 v10 v11 v12 v13 v14
  have hword := fw_words n
  rcases hword with hw | ⟨hw, hu⟩
  · rw [hw] at hlk
    have heq := str_yes (rfl : (⟨(wordL n.toNat).toArray⟩ : ByteArray) = _)
    clear hw
    go_wp2_with fail
    refine (word_ok n _).mono ?_
    rintro e w2 ⟨rfl, u2⟩
    have HU2 := Hd.mk (HV.out.trans u2 (by simp))
    clear u2
    simp only [S]
    go_wp2_with fail
    go_ret
    exact ⟨rfl, HU2.out⟩
  · rw [hw] at hlk
    have HUW := Hd.mk hu
    clear hw hu
    go_wp2_with fail
    refine (word_ok n _).mono ?_
    rintro e w2 ⟨rfl, u2⟩
    have HU2 := Hd.mk (HV.out.trans u2 (by simp))
    clear u2
    rw [HUW.out]
    simp only [S]
    have heq := str_yes (rfl : (⟨#[85, 110, 107, 110, 111, 119, 110]⟩ : ByteArray) = _)
    go_wp2_with fail
    go_ret
    exact ⟨rfl, HU2.out⟩
theorem words_row (n : Int) (w : World) (hT : Tab w) (_ : (Lit.int .i64 n).wf = true) :
    Calls Tryd.prog 3 #[.int .i64 n] w fun e w' => e = .returned (.bool true) ∧ Below w.heap.size w w' :=
  (words_walk n w hT).mono fun _ _ h => ⟨h.1, h.2.nil_below⟩
end Go.Proofs.YtgmpahdagbelfaaDoor
