/- NetApart: what happens to one connection changes nothing of another one. -/
import Derived.Test.YtpjkckhgkaefdaaN9
import Derived.Test.YtpjkckhgkaefdaaFlat
import Derived.Test.YtpjkckhgkaefdaaBits
import Derived.Deep.LoopGhost
namespace Go.Proofs.Ytpjkckhgkaefdaa
set_option linter.unusedSimpArgs false
set_option linter.unusedVariables false
set_option linter.unnecessarySimpa false
open Go.RowKit BigFrame

/-- A turn of a connection that adds little. -/
def Small (f : Cn → Cn) : Prop := ∀ x, (f x).came ≤ x.came + 200 ∧ (f x).inn.length ≤ x.inn.length + 1 ∧ (f x).written.size ≤ x.written.size + 200
theorem small_send {d : ByteArray} (h : d.size ≤ 200) : Small (Cn.send d) := fun x => by
  unfold Cn.send; split <;> simp <;> omega
theorem small_write {d : ByteArray} (h : d.size ≤ 200) : Small (Cn.mwrite d) := fun x => by
  unfold Cn.mwrite; split <;> simp [ByteArray.size_append] <;> omega
theorem small_shut : Small Cn.mshut := fun x => by unfold Cn.mshut; split <;> simp
theorem small_reset : Small Cn.mreset := fun x => by unfold Cn.mreset; split <;> simp
theorem small_close : Small Cn.mclose := fun x => by unfold Cn.mclose; simp
theorem small_read : Small Cn.mread := fun x => by unfold Cn.mread; simp; omega

def Lim (c : Nat) (M : Nat → Cn) : Prop := ∀ j, (M j).came ≤ 200 * c ∧ (M j).inn.length ≤ c ∧ (M j).written.size ≤ 200 * c
theorem Lim.nth {c : Nat} {M : Nat → Cn} (h : Lim c M) (n : Nat) (i : Int) : (nth M n i).came ≤ 200 * c ∧ (nth M n i).inn.length ≤ c ∧ (nth M n i).written.size ≤ 200 * c := by
  unfold Proofs.Ytpjkckhgkaefdaa.nth
  split
  · exact h _
  · exact ⟨Nat.zero_le _, Nat.zero_le _, Nat.zero_le _⟩
theorem Lim.ap {c : Nat} {M : Nat → Cn} (h : Lim c M) (n : Nat) (i : Int) {f : Cn → Cn} (hf : Small f) : Lim (c + 1) (apM M n i f) := by
  intro j
  have h1 := h j
  unfold apM
  split
  · have h2 := hf (M j); omega
  · omega
theorem Lim.dial {c : Nat} {M : Nat → Cn} (h : Lim c M) (n : Nat) : Lim (c + 1) (dialTo M n) := by
  intro j
  have h1 := h j
  unfold dialTo upM
  split
  · exact ⟨Nat.zero_le _, Nat.zero_le _, Nat.zero_le _⟩
  · omega
theorem Lim.more {c d : Nat} {M : Nat → Cn} (h : Lim c M) (hd : c ≤ d) : Lim d M := fun j => by have := h j; omega

structure Ap (s : ByteArray) (c n : Nat) (M : Nat → Cn) (D : List Nat) : Prop where
  n1 : 1 ≤ n
  n2 : n ≤ c + 1
  dl : D.length ≤ c + 1
  first : M 0 = { Cn.new with written := s, inn := [s], came := s.size }
  lim : Lim (c + 1) M
theorem Ap.ap {s : ByteArray} {c n : Nat} {M : Nat → Cn} {D : List Nat} (h : Ap s c n M D) (k : Int) (hk : 1 ≤ k) {f : Cn → Cn} (hf : Small f) : Ap s (c + 1) n (apM M n k f) D :=
  ⟨h.n1, by have := h.n2; omega, by have := h.dl; omega, by rw [apM_ne _ (by omega)]; exact h.first, h.lim.ap n k hf⟩
theorem Ap.dial {s : ByteArray} {c n : Nat} {M : Nat → Cn} {D : List Nat} (h : Ap s c n M D) : Ap s (c + 1) (n + 1) (dialTo M n) (D ++ [n]) :=
  ⟨by omega, by have := h.n2; omega, by have := h.dl; simp; omega, by have := h.n1; unfold dialTo; rw [upM_ne _ _ _ (by omega)]; exact h.first, h.lim.dial n⟩
theorem Ap.stay {s : ByteArray} {c n : Nat} {M : Nat → Cn} {D : List Nat} (h : Ap s c n M D) : Ap s (c + 1) n M D :=
  ⟨h.n1, by have := h.n2; omega, by have := h.dl; omega, h.first, h.lim.more (by omega)⟩

set_option maxRecDepth 100000 in
set_option maxHeartbeats 4000000 in
theorem apart_walk (a : Option Addr) (len cap : Nat) (s : ByteArray) (w : World) (hz : Leaf.ok w (.sl [.int .i64, .int .i64, .str]) (.slice a len cap)) (_ : s.size ≤ 9223372036854775807) :
    Calls Try.prog 5 #[.slice a len cap, .string s] w fun e w' => e = .returned (.bool true) ∧ Upd [] w w' := by
  by_cases hl : 100 < len
  · go_enter Try.func5, Try.ntmps5
    go_wp2_with fail
    refine (fit_ok w).mono ?_
    rintro e w1 ⟨rfl, u1⟩
    go_wp2_with fail
    go_ret
    exact ⟨rfl, u1⟩
  have hl : len ≤ 100 := by omega
  have hl0 : decide ((100 : Int) < len) = false := by simp; omega
  cases he : s.toList.isEmpty
  case true =>
    go_enter Try.func5, Try.ntmps5
    go_wp2_with fail
    refine (fit_ok w).mono ?_
    rintro e w1 ⟨rfl, u1⟩
    go_wp2_with fail
    go_ret
    exact ⟨rfl, u1⟩
  by_cases hs : 100 < s.size
  · have hs0 : decide ((100 : Int) < s.size) = true := by simp; omega
    go_enter Try.func5, Try.ntmps5
    go_wp2_with fail
    refine (fit_ok w).mono ?_
    rintro e w1 ⟨rfl, u1⟩
    go_wp2_with fail
    go_ret
    exact ⟨rfl, u1⟩
  have hs : s.size ≤ 100 := by omega
  have hs0 : decide ((100 : Int) < s.size) = false := by simp; omega
  have HO := Hd.mk (fun (h : 0 < len) => Leaf.open hz h (by simp))
  clear hz
  go_enter Try.func5, Try.ntmps5
  go_wp2_with fail
  refine (fit_ok w).mono ?_
  rintro e w1 ⟨rfl, u1⟩
  go_wp2_with fail
  have HE := Hd.mk he
  clear he hl0 hs0
  have q0 := Own.new u1
  generalize hp : w1.heap.size = p at q0
  refine (o_dial w p 0 _ [] _ q0 (by omega) (by simp)).mono ?_
  rintro e w2 ⟨rfl, q1⟩
  clear q0 u1 hp
  have F1 : Hd (dialTo (fun _ => Cn.new) 0 = fun _ => Cn.new) := Hd.mk (by funext j; unfold dialTo upM; split <;> rfl)
  rw [F1.out] at q1
  go_wp2_with fail
  refine (t_send w p 1 _ _ _ 0 s true q1 (by rw [show ((0 : Int)) = ((0 : Nat) : Int) from rfl, nth_in (by omega)]; simp [Cn.new]; omega) (by rw [show ((0 : Int)) = ((0 : Nat) : Int) from rfl, nth_in (by omega)]; simp [Cn.new]) (by rw [show ((0 : Int)) = ((0 : Nat) : Int) from rfl, nth_in (by omega), inn_in (by omega)]; simp [Cn.new, sendOk, Cn.open3, HE.out])).mono ?_
  rintro e w3 ⟨rfl, q2⟩
  clear q1
  have l2 : Lim 1 (apM (fun _ => Cn.new) 1 0 (Cn.send s)) := Lim.ap (c := 0) (fun j => ⟨Nat.le_refl _, Nat.le_refl _, Nat.le_refl _⟩) _ _ (small_send (by omega))
  have f2 : apM (fun _ => Cn.new) 1 0 (Cn.send s) 0 = { Cn.new with inn := [s], came := s.size } := by
    rw [show ((0 : Int)) = ((0 : Nat) : Int) from rfl, apM_self _ (by omega)]; simp [Cn.send, sendOk, Cn.open3, Cn.new, HE.out]
  have F2 := Hd.mk (And.intro l2 f2)
  generalize apM (fun _ => Cn.new) 1 0 (Cn.send s) = M2 at q2 F2
  clear l2 f2
  go_wp2_with fail
  refine (t_write w p 1 _ _ _ 0 s q2 (by have := (F2.out.1.nth 1 0).2.2; omega)).mono ?_
  rintro e w4 ⟨rfl, q3⟩
  clear q2
  have ap : Ap s 1 1 (apM M2 1 0 (Cn.mwrite s)) ([] ++ [0]) := ⟨by omega, by omega, by simp, by
    rw [show ((0 : Int)) = ((0 : Nat) : Int) from rfl, apM_self _ (by omega), F2.out.2]; simp [Cn.mwrite, Cn.open2, Cn.new, empty_app], F2.out.1.ap _ _ (small_write (by omega))⟩
  generalize apM M2 1 0 (Cn.mwrite s) = M3 at q3 ap
  clear F2
  go_wp2_with fail
  go_loopg [35] len (fun g i wr => ∃ (c n : Nat) (M : Nat → Cn) (D : List Nat), c + g = len ∧ i = .int .i64 c ∧ Ap s (c + 1) n M D ∧ Own w wr p n M D)
  case atStart => exact ⟨0, 1, M3, _, by omega, rfl, ap, q3⟩
  case round =>
    clear q3 ap
    obtain ⟨c, n, M, D, hc, rfl, ap, q⟩ := hrel
    by_cases hlt : c < len
    · obtain ⟨b, off, V, rfl, hb, -, hV⟩ := HO.out (by omega)
      obtain ⟨hv, hcc⟩ := hV c hlt
      simp only [Leaf.oks, Leaf.ok] at hv
      obtain ⟨_, _, hv, ⟨kd, rfl, hk⟩, _, _, rfl, ⟨cn, rfl, hn⟩, _, _, rfl, ⟨d, rfl, hd⟩, rfl⟩ := hv
      have hc0 := hcc 0 (by simp)
      have hc1 := hcc 1 (by simp)
      have hc2 := hcc 2 (by simp)
      simp only [hv, List.length_cons, List.length_nil, List.getElem?_cons_zero, List.getElem?_cons_succ, Nat.zero_add, Nat.reduceAdd] at hc0 hc1 hc2
      clear hV hcc hv
      replace hc0 : wr.cell? ⟨b, off + c * 3, none⟩ = some (.int .i64 kd) := by rw [q.out.cell (p := ⟨b, off + c * 3, none⟩) hb (by simp)]; exact hc0
      replace hc1 : wr.cell? ⟨b, off + c * 3 + 1, none⟩ = some (.int .i64 cn) := by rw [q.out.cell (p := ⟨b, off + c * 3 + 1, none⟩) hb (by simp)]; exact hc1
      replace hc2 : wr.cell? ⟨b, off + c * 3 + 2, none⟩ = some (.string d) := by rw [q.out.cell (p := ⟨b, off + c * 3 + 2, none⟩) hb (by simp)]; exact hc2
      have HI := Hd.mk (And.intro ap q)
      have HG := Hd.mk hc
      clear ap q hc
      go_upto_region 12 with (fail)
      refine wp_abs (fun W => Own w W p n M D ∧ Blk W wr.heap.size [.int .i64 kd, .int .i64 cn, .string d] 43) ⟨HI.out.2.alloc _, Blk.new wr [.int .i64 kd, .int .i64 cn, .string d] 43 _ rfl⟩ ?_
      rintro w5 ⟨q, tb⟩
      clear hc0 hc1 hc2
      have ap := HI.out.1
      have hc0 := tb.cell 0
      have hc1 := tb.cell 1
      have hc2 := tb.cell 2
      simp only [List.getElem?_cons_zero, List.getElem?_cons_succ] at hc0 hc1 hc2
      generalize wr.heap.size = cb at hc0 hc1 hc2 tb ⊢
      clear tb HI
      by_cases hs2 : 100 < d.size
      · go_wp2_with fail
        go_ret
        exact ⟨rfl, q.out⟩
      have hs2 : d.size ≤ 100 := by omega
      obtain ⟨k, hk⟩ : ∃ k : Int, 1 + cn % 4 = k := ⟨_, rfl⟩
      have hk1 : 1 ≤ k := by omega
      have hk2 : k ≤ 4 := by omega
      obtain ⟨x, hx⟩ : ∃ x, kd % 8 = x := ⟨_, rfl⟩
      have hx8 : x = 0 ∨ x = 1 ∨ x = 2 ∨ x = 3 ∨ x = 4 ∨ x = 5 ∨ x = 6 ∨ x = 7 := by omega
      have hn2 := ap.n2
      have hdl := ap.dl
      have AP := Hd.mk ap
      have hg1 : c + 1 + (gk - 1) = len := by have := HG.out; omega
      have HG1 := Hd.mk hg1
      clear ap hg1
      rcases hx8 with rfl | rfl | rfl | rfl | rfl | rfl | rfl | rfl
      · go_wp2_with fail
        refine (o_dial w p n _ _ _ q (by omega) (by omega)).mono ?_
        rintro e w6 ⟨rfl, q6⟩
        go_wp2_with fail
        go_roundg (gk - 1)
        case measure => have := HG.out; omega
        case rel => exact ⟨c + 1, _, _, _, HG1.out, by simp, AP.out.dial, q6⟩
      · go_wp2_with fail
        refine (t_send w p n _ _ _ k d _ q (by have := (AP.out.lim.nth n k).1; omega) (by have := (AP.out.lim.nth n k).2.1; omega) rfl).mono ?_
        rintro e w6 ⟨rfl, q6⟩
        go_wp2_with fail
        go_roundg (gk - 1)
        case measure => have := HG.out; omega
        case rel => exact ⟨c + 1, _, _, _, HG1.out, by simp, AP.out.ap k hk1 (small_send (by omega)), q6⟩
      · go_wp2_with fail
        refine (t_shut w p n _ _ _ k _ q rfl).mono ?_
        rintro e w6 ⟨rfl, q6⟩
        go_wp2_with fail
        go_roundg (gk - 1)
        case measure => have := HG.out; omega
        case rel => exact ⟨c + 1, _, _, _, HG1.out, by simp, AP.out.ap k hk1 small_shut, q6⟩
      · go_wp2_with fail
        refine (t_reset w p n _ _ _ k _ q rfl).mono ?_
        rintro e w6 ⟨rfl, q6⟩
        go_wp2_with fail
        go_roundg (gk - 1)
        case measure => have := HG.out; omega
        case rel => exact ⟨c + 1, _, _, _, HG1.out, by simp, AP.out.ap k hk1 small_reset, q6⟩
      · go_wp2_with fail
        go_roundg (gk - 1)
        case measure => have := HG.out; omega
        case rel => exact ⟨c + 1, _, _, _, HG1.out, by simp, AP.out.stay, q⟩
      · go_wp2_with fail
        refine (t_read w p n _ _ _ k _ _ q (by have := (AP.out.lim.nth n k).2.1; omega) rfl rfl).mono ?_
        rintro e w6 ⟨rfl, q6⟩
        go_wp2_with fail
        go_roundg (gk - 1)
        case measure => have := HG.out; omega
        case rel => exact ⟨c + 1, _, _, _, HG1.out, by simp, AP.out.ap k hk1 small_read, q6⟩
      · go_wp2_with fail
        refine (t_write w p n _ _ _ k d q (by have := (AP.out.lim.nth n k).2.2; omega)).mono ?_
        rintro e w6 ⟨rfl, q6⟩
        go_wp2_with fail
        go_roundg (gk - 1)
        case measure => have := HG.out; omega
        case rel => exact ⟨c + 1, _, _, _, HG1.out, by simp, AP.out.ap k hk1 (small_write (by omega)), q6⟩
      · go_wp2_with fail
        refine (t_close w p n _ _ _ k q).mono ?_
        rintro e w6 ⟨rfl, q6⟩
        go_wp2_with fail
        go_roundg (gk - 1)
        case measure => have := HG.out; omega
        case rel => exact ⟨c + 1, _, _, _, HG1.out, by simp, AP.out.ap k hk1 small_close, q6⟩
    · obtain rfl : c = len := by omega
      have F := Hd.mk (And.intro ap.n1 ap.first)
      clear ap hlt hc HO
      go_wp2_with fail
      have f0 : nth M n 0 = { Cn.new with written := s, inn := [s], came := s.size } := by
        rw [show ((0 : Int)) = ((0 : Nat) : Int) from rfl, nth_in F.out.1]; exact F.out.2
      have f1 : nth (apM M n 0 Cn.mread) n 0 = { Cn.new with written := s, inn := [], came := s.size } := by
        rw [show ((0 : Int)) = ((0 : Nat) : Int) from rfl, nth_in F.out.1, apM_self _ F.out.1, F.out.2]; rfl
      have F1 := Hd.mk f1
      refine (t_read w p n _ _ _ 0 s true q (by rw [f0]; simp) (by rw [f0]; rfl) (by rw [f0]; rfl)).mono ?_
      rintro e w6 ⟨rfl, q6⟩
      have c1 := Hd.mk (q6.q_came 0 s.size (by rw [F1.out]))
      have c2 := Hd.mk (q6.q_written 0 s (by rw [F1.out]))
      have c3 := Hd.mk (q6.q_gone 0 false (by rw [F1.out]; rfl))
      have c4 := Hd.mk (q6.q_closed 0 false (by rw [F1.out]; rfl))
      have c5 := Hd.mk (q6.q_ready 0 false (by rw [F1.out]; rfl))
      have u6 := Hd.mk q6.out
      clear f0 f1 q q6
      go_wp2_with fail
      refine (c1.out 0).mono ?_
      rintro e w7 ⟨rfl, k7, rfl⟩
      go_wp2_with fail
      refine (c2.out _).mono ?_
      rintro e w7 ⟨rfl, k7, rfl⟩
      go_wp2_with fail
      refine (c3.out _).mono ?_
      rintro e w7 ⟨rfl, k7, rfl⟩
      go_wp2_with fail
      refine (c4.out _).mono ?_
      rintro e w7 ⟨rfl, k7, rfl⟩
      go_wp2_with fail
      refine (c5.out _).mono ?_
      rintro e w7 ⟨rfl, k7, rfl⟩
      go_wp2_with fail
      go_ret
      exact ⟨rfl, u6.out.drewN _⟩

theorem apart_row (a : Option Addr) (len cap : Nat) (s : ByteArray) (w : World) (hz : Leaf.ok w (.sl [.int .i64, .int .i64, .str]) (.slice a len cap)) (hs : s.size ≤ 9223372036854775807) : Calls Try.prog 5 #[.slice a len cap, .string s] w fun e w' => e = .returned (.bool true) ∧ Below w.heap.size w w' :=
  (apart_walk a len cap s w hz hs).mono fun _ _ h => ⟨h.1, h.2.nil_below⟩
end Go.Proofs.Ytpjkckhgkaefdaa
