/- answer.line, ascii.Words. -/
import Derived.Test.YtndlbkiogagnaaaGreatDoorA3
import Derived.Test.YtndlbkiogagnaaaGreatDoorAp
namespace Go.Proofs.YtndlbkiogagnaaaGreatDoor
set_option linter.unusedSimpArgs false
set_option linter.unusedVariables false
set_option linter.unnecessarySimpa false
open Go.RowKit BigFrame

def S (l : Bs) : Value := .string ⟨l.toArray⟩
theorem mk_data (s : ByteArray) : (⟨s.data.toList.toArray⟩ : ByteArray) = s := by cases s; simp
/-- What line hands back. -/
def lineV (o : Option (Bs × Bs)) : Value := match o with | some (a, b) => .tuple #[S a, S b, .bool true] | none => .tuple #[S [], S [], .bool false]
theorem lineL_step {l : Bs} {j : Nat} (h : j + 1 < l.length) (hinv : lineL l = (lineL (l.drop j)).map fun x => (l.take j ++ x.1, x.2)) :
    (l[j] = 13 ∧ l[j + 1] = 10 → lineL l = some (l.take j, l.drop (j + 2))) ∧ (¬ (l[j] = 13 ∧ l[j + 1] = 10) → lineL l = (lineL (l.drop (j + 1))).map fun x => (l.take (j + 1) ++ x.1, x.2)) := by
  have h1 : l.drop j = l[j] :: l[j + 1] :: l.drop (j + 2) := by
    rw [List.drop_eq_getElem_cons (show j < l.length by omega), List.drop_eq_getElem_cons h]
  have h2 : l.drop (j + 1) = l[j + 1] :: l.drop (j + 2) := by rw [List.drop_eq_getElem_cons h]
  rw [h1, lineL] at hinv
  constructor
  · intro hc
    rw [hinv, if_pos hc]
    simp
  · intro hc
    rw [hinv, if_neg hc, ← h2]
    rw [List.take_succ_eq_append_getElem (by omega)]
    cases lineL (l.drop (j + 1)) with
    | none => rfl
    | some x => simp only [Option.map_some, List.append_assoc, List.singleton_append]
theorem lineL_end {l : Bs} {j : Nat} (h : l.length ≤ j + 1) (hinv : lineL l = (lineL (l.drop j)).map fun x => (l.take j ++ x.1, x.2)) : lineL l = none := by
  rw [hinv]
  have : (l.drop j).length ≤ 1 := by simp; omega
  cases hd : l.drop j with
  | nil => rfl
  | cons c r =>
    rw [hd] at this
    simp at this
    have : r = [] := by simpa using this
    subst this
    rfl
theorem at_list (s : ByteArray) (j : Nat) (h : j < s.size) (h' : j < s.data.toList.length) : s.data.toList[j] = s[j] := rfl
theorem S_of {s : ByteArray} {l : Bs} (h : s.data.toList = l) : Value.string s = S l := by
  subst h; unfold S; rw [mk_data]

def glue (cur : Bs) : List Bs → List Bs
  | h :: t => (cur ++ h) :: t
  | [] => [cur]
theorem splitL_cons (c x : UInt8) (r : Bs) : splitL c (x :: r) = if x = c then [] :: splitL c r else glue [x] (splitL c r) := by
  rw [splitL]
  split
  · rfl
  · cases splitL c r <;> rfl
theorem glue_glue (a b : Bs) (x : List Bs) (h : x ≠ []) : glue a (glue b x) = glue (a ++ b) x := by
  cases x with
  | nil => exact absurd rfl h
  | cons h t => simp [glue]
theorem glue_nil (x : List Bs) (h : x ≠ []) : glue [] x = x := by
  cases x with
  | nil => exact absurd rfl h
  | cons h t => simp [glue]
def Ss (l : List Bs) : List Value := l.map S

set_option maxHeartbeats 2000000 in
theorem words_ok (s : ByteArray) (c : UInt8) (w : World) (hs : s.size ≤ 900000) :
    Calls Tryz.prog 40 #[.string s, .int .u8 c.toNat] w fun e w' => ∃ v, e = .returned v ∧ Bld w w' 9 1 v (splitL c s.data.toList).length (Ss (splitL c s.data.toList)) := by
  have hlen : s.data.toList.length = s.size := by simp
  have HL := Hd.mk hlen
  clear hlen
  go_enter Tryz.func40, Tryz.ntmps40
  go_wp2_with fail
  go_loopg [5, 6, 7, 11] (s.size + 1) (fun g s5 s6 s7 ii wr => ∃ (j f : Nat) (W : List Bs), j + g = s.size + 1 ∧ ii = .int .i64 j ∧ s6 = .int .i64 f ∧ f ≤ j ∧ W.length ≤ j ∧ Bld w wr 9 1 s5 W.length (Ss W) ∧
      Hd ((j ≤ s.size → splitL c s.data.toList = W ++ glue ((s.data.toList.drop f).take (j - f)) (splitL c (s.data.toList.drop j))) ∧ (s.size < j → splitL c s.data.toList = W)))
  case atStart => exact ⟨0, 0, [], by omega, rfl, rfl, by omega, by simp, Bld.nil (Upd.refl _ _) _ _, Hd.mk ⟨fun _ => by simp [glue_nil _ (splitL_ne _ _)], by omega⟩⟩
  case round =>
    obtain ⟨j, f, W, hj, rfl, rfl, hf, hW, y, HS⟩ := hrel
    by_cases hlt : j ≤ s.size
    · have HY := Hd.mk y
      have hss := y.sl
      have hlist := HS.out.1 hlt
      obtain ⟨x, hx⟩ : ∃ x, s.extract f j = x := ⟨_, rfl⟩
      have hxl : Value.string x = S ((s.data.toList.drop f).take (j - f)) := by rw [← hx]; exact S_of (ext_list s f j)
      have HX := Hd.mk hxl
      have HLI := Hd.mk hlist
      clear y hxl hlist HS
      by_cases he : j = s.size
      · have B0 : ((j : Int) == (s.size : Int)) = true := by rw [bq]; simpa using he
        have HN := Hd.mk (show splitL c s.data.toList = W ++ [(s.data.toList.drop f).take (j - f)] by
          rw [HLI.out, he, show s.data.toList.drop s.size = [] by rw [List.drop_eq_nil_iff]; rw [HL.out]; exact Nat.le_refl _]
          simp [splitL, glue])
        have HE := Hd.mk he
        clear HLI he
        go_wp2_with (at_builtin; refine wpList_append_row rfl (.tmp 25) (.tmp 30) 22 rfl rfl 9 (.string ⟨#[]⟩) 1 16 Tryz.underlying22 (by kernel_rfl) rfl _ _ _ rfl hss [.string x] rfl rfl rfl (by omega) (by omega) ?_)
        intro v' w9 s9 u9 o9
        have HY9 := Hd.mk (HY.out.app s9 u9 o9)
        clear s9 u9 o9 hss
        go_wp2_with fail
        go_roundg (gk - 1)
        case measure => omega
        case rel => exact ⟨j + 1, j + 1, W ++ [(s.data.toList.drop f).take (j - f)], by omega, by go_num, by go_num, by omega, by simp; omega, by have := HY9.out; rw [HX.out] at this; simpa [Ss] using this, Hd.mk ⟨fun h => by have := HE.out; omega, fun _ => HN.out⟩⟩
      · have B0 : ((j : Int) == (s.size : Int)) = false := by rw [bq]; simpa using he
        have hjs : j < s.size := by omega
        have hd := List.drop_eq_getElem_cons (l := s.data.toList) (i := j) (by rw [HL.out]; exact hjs)
        have B1 : ((s[j].toNat : Int) == (c.toNat : Int)) = decide (s[j].toNat = c.toNat) := bq _ _
        have HD := Hd.mk hd
        clear hd
        by_cases hc : s[j].toNat = c.toNat
        · rw [decide_eq_true hc] at B1
          have HN := Hd.mk (show splitL c s.data.toList = (W ++ [(s.data.toList.drop f).take (j - f)]) ++ splitL c (s.data.toList.drop (j + 1)) by
            rw [HLI.out, HD.out, splitL_cons, if_pos (show s.data.toList[j]'(by rw [HL.out]; exact hjs) = c from UInt8.toNat_inj.1 hc)]
            simp [glue])
          clear HLI hc
          go_wp2_with (at_builtin; refine wpList_append_row rfl (.tmp 25) (.tmp 30) 22 rfl rfl 9 (.string ⟨#[]⟩) 1 16 Tryz.underlying22 (by kernel_rfl) rfl _ _ _ rfl hss [.string x] rfl rfl rfl (by omega) (by omega) ?_)
          intro v' w9 s9 u9 o9
          have HY9 := Hd.mk (HY.out.app s9 u9 o9)
          clear s9 u9 o9 hss
          go_wp2_with fail
          go_roundg (gk - 1)
          case measure => omega
          case rel => exact ⟨j + 1, j + 1, W ++ [(s.data.toList.drop f).take (j - f)], by omega, by go_num, by go_num, by omega, by simp; omega, by have := HY9.out; rw [HX.out] at this; simpa [Ss] using this, Hd.mk ⟨fun _ => by rw [HN.out]; simp [glue_nil _ (splitL_ne _ _)], by omega⟩⟩
        · rw [decide_eq_false hc] at B1
          have HN := Hd.mk (show splitL c s.data.toList = W ++ glue ((s.data.toList.drop f).take (j + 1 - f)) (splitL c (s.data.toList.drop (j + 1))) by
            rw [HLI.out, HD.out, splitL_cons, if_neg (fun e => hc (by have := congrArg UInt8.toNat e; exact this)), glue_glue _ _ _ (splitL_ne _ _)]
            congr 2
            rw [show j + 1 - f = (j - f) + 1 by omega, List.take_succ_eq_append_getElem (by simp; omega)]
            simp
            congr 1
            omega)
          clear HLI hc
          go_wp2_with fail
          go_roundg (gk - 1)
          case measure => omega
          case rel => exact ⟨j + 1, f, W, by omega, by go_num, rfl, by omega, by omega, HY.out, Hd.mk ⟨fun _ => HN.out, by omega⟩⟩
    · have HN := Hd.mk (HS.out.2 (by omega))
      have HY := Hd.mk y
      clear HS y
      go_wp2_with fail
      go_ret
      refine ⟨_, rfl, ?_⟩
      rw [HN.out]
      exact HY.out
end Go.Proofs.YtndlbkiogagnaaaGreatDoor
