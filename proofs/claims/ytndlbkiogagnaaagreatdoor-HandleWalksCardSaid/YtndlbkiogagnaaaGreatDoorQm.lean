/- A region that draws its order, whose first n operations only read but for one that makes memory, and whose other operations come one behind the other: the order of the text serves every order. -/
import Derived.Test.YtndlbkiogagnaaaGreatDoorQt
import Derived.Test.YtndlbkiogagnaaaGreatDoorCq
namespace Go.Proofs.YtndlbkiogagnaaaGreatDoor
set_option linter.unusedSimpArgs false
set_option linter.unusedVariables false
set_option linter.unnecessarySimpa false

section
variable {P : Program} {ops : Array Oper} {md : Region.Mode} {C0 C1 : World → Prop} {q : Nat}

/-- An operation that hands back a value, and calls nothing. -/
def plainB (o : Oper) : Bool := match o.op with
  | .move _ | .assign _ | .pick .. | .load .. | .binOp .. | .unOp .. | .slice .. | .fieldAddr .. | .indexAddr .. | .index .. | .build .. | .nilCheck _ => true
  | .call c => match c.callee with | .builtin .len => true | _ => false
  | _ => false
theorem plain_enter {o : Oper} (h : plainB o = true) (ρ : Operand → Value) (w w' : World) (f : FuncId) (args : Array Value) : (execOp ρ o).run P w ≠ .ok (.enter f args) w' := by
  have hv : ∀ s : Sem Value, (do pure (Next.value (← s)) : Sem Next).run P w ≠ .ok (.enter f args) w' := by
    intro s
    simp only [Sem.run_bind, Sem.run_pure]
    cases s.run P w with
    | ok v w1 => simp [Result.andThen]
    | halt x w1 => simp [Result.andThen]
  unfold execOp
  unfold plainB at h
  cases ho : o.op with
  | move x => simp
  | assign x => simp
  | pick c a b =>
    simp only [Sem.run_bind, Sem.run_pure]
    cases (asBool (ρ c)).run P w with
    | ok v w1 => simp [Result.andThen]
    | halt x w1 => simp [Result.andThen]
  | load t a => exact hv _
  | binOp op t x y z => exact hv _
  | unOp op t x => exact hv _
  | slice t x a b c => exact hv _
  | fieldAddr s x f => exact hv _
  | indexAddr t x i => exact hv _
  | index t x i => exact hv _
  | build t fs => exact hv _
  | nilCheck x =>
    simp only
    split
    all_goals (try split)
    all_goals (try (simp [Sem.run_bind, Sem.run_pure, Result.andThen]; done))
    all_goals first
      | (intro h; simp [runtimePanic, goPanic, Sem.run_bind, Result.andThen] at h; done)
      | (intro h; unfold runtimePanic at h; simp only [Sem.run_bind, run_program, Result.andThen] at h; exact nomatch h)
      | (intro h
         simp only [Sem.run_bind] at h
         rename_i t1 w1 n1
         revert h
         cases (program).run P w with
         | halt x w1 => intro h; exact nomatch h
         | ok p w1 =>
           simp only [Result.andThen]
           cases (nilAhead (p.types.size + Made.depth) _ _ _).run P w1 with
           | halt x w2 => intro h; exact nomatch h
           | ok r w2 =>
             simp only
             split
             · simp only [Sem.run_bind]
               cases (unsupported _ : Sem Unit).run P w2 with
               | halt x w3 => intro h; exact nomatch h
               | ok p w3 => intro h; simp [Sem.run_pure, Result.andThen] at h
             · intro h; simp [Sem.run_pure] at h)
  | call c =>
    rw [ho] at h
    simp only at h
    simp only [resolve, Sem.run_bind]
    cases hc : c.callee with
    | builtin b =>
      rw [hc] at h
      cases b <;> simp at h
      simp only [Sem.run_pure, Result.andThen, invoke]
      exact hv _
    | value f => rw [hc] at h; simp at h
    | invoke r n => rw [hc] at h; simp at h
  | _ => rw [ho] at h; simp at h

theorem plain_skip {o : Oper} (h : plainB o = true) (ρ : Operand → Value) (w w' : World) : (execOp ρ o).run P w ≠ .ok (.skip) w' := by
  have hv : ∀ s : Sem Value, (do pure (Next.value (← s)) : Sem Next).run P w ≠ .ok (.skip) w' := by
    intro s
    simp only [Sem.run_bind, Sem.run_pure]
    cases s.run P w with
    | ok v w1 => simp [Result.andThen]
    | halt x w1 => simp [Result.andThen]
  unfold execOp
  unfold plainB at h
  cases ho : o.op with
  | move x => simp
  | assign x => simp
  | pick c a b =>
    simp only [Sem.run_bind, Sem.run_pure]
    cases (asBool (ρ c)).run P w with
    | ok v w1 => simp [Result.andThen]
    | halt x w1 => simp [Result.andThen]
  | load t a => exact hv _
  | binOp op t x y z => exact hv _
  | unOp op t x => exact hv _
  | slice t x a b c => exact hv _
  | fieldAddr s x f => exact hv _
  | indexAddr t x i => exact hv _
  | index t x i => exact hv _
  | build t fs => exact hv _
  | nilCheck x =>
    simp only
    split
    all_goals (try split)
    all_goals (try (simp [Sem.run_bind, Sem.run_pure, Result.andThen]; done))
    all_goals first
      | (intro h; simp [runtimePanic, goPanic, Sem.run_bind, Result.andThen] at h; done)
      | (intro h; unfold runtimePanic at h; simp only [Sem.run_bind, run_program, Result.andThen] at h; exact nomatch h)
      | (intro h
         simp only [Sem.run_bind] at h
         rename_i t1 w1 n1
         revert h
         cases (program).run P w with
         | halt x w1 => intro h; exact nomatch h
         | ok p w1 =>
           simp only [Result.andThen]
           cases (nilAhead (p.types.size + Made.depth) _ _ _).run P w1 with
           | halt x w2 => intro h; exact nomatch h
           | ok r w2 =>
             simp only
             split
             · simp only [Sem.run_bind]
               cases (unsupported _ : Sem Unit).run P w2 with
               | halt x w3 => intro h; exact nomatch h
               | ok p w3 => intro h; simp [Sem.run_pure, Result.andThen] at h
             · intro h; simp [Sem.run_pure] at h)
  | call c =>
    rw [ho] at h
    simp only at h
    simp only [resolve, Sem.run_bind]
    cases hc : c.callee with
    | builtin b =>
      rw [hc] at h
      cases b <;> simp at h
      simp only [Sem.run_pure, Result.andThen, invoke]
      exact hv _
    | value f => rw [hc] at h; simp at h
    | invoke r n => rw [hc] at h; simp at h
  | _ => rw [ho] at h; simp at h

/-- In state a operation number i yields v: the maker in the worlds ahead of it, each other one in all worlds. -/
def YY (P : Program) (ops : Array Oper) (C0 C1 : World → Prop) (q i : Nat) (o : Oper) (v : Value) (a : Act) : Prop :=
  (Region.wanted o (yielded ops a.tmps) = true ∧ (i = q → ∀ w, C0 w → ∃ w', (execOp a.eval o).run P w = .ok (.value v) w' ∧ C1 w') ∧
    (i ≠ q → ∀ w, C0 w ∨ C1 w → (execOp a.eval o).run P w = .ok (.value v) w)) ∨ (Region.wanted o (yielded ops a.tmps) = false ∧ v = undef ∧ i ≠ q)
theorem YY.of_same {i : Nat} {o : Oper} {v : Value} {a a' : Act} (hy : YY P ops C0 C1 q i o v a) (he : execOp a'.eval o = execOp a.eval o)
    (hw : Region.wanted o (yielded ops a'.tmps) = Region.wanted o (yielded ops a.tmps)) : YY P ops C0 C1 q i o v a' := by
  unfold YY at *
  rw [he, hw]
  exact hy
def qq (P : Program) (ops : Array Oper) (C0 C1 : World → Prop) (q i : Nat) (K : Act → Prop) (a : Act) : Prop := ∃ o v, ops[i]? = some o ∧ YY P ops C0 C1 q i o v a ∧ K (a.put o.dst v)
theorem qq_mono {i : Nat} {a : Act} {K K' : Act → Prop} (h : ∀ a, K a → K' a) (hh : qq P ops C0 C1 q i K a) : qq P ops C0 C1 q i K' a := by
  obtain ⟨o, v, h1, h2, h3⟩ := hh
  exact ⟨o, v, h1, h2, h _ h3⟩
theorem qq_put {i j : Nat} {oi oj : Oper} {v : Value} (hj : ops[j]? = some oj) (hap : oi.apart ops oj = true)
    (hsi : ∀ cs b, oi.op ≠ .select cs b) (hsj : ∀ cs b, oj.op ≠ .select cs b) {K : Act → Prop} {a : Act}
    (hy : YY P ops C0 C1 q i oi v a) (h : qq P ops C0 C1 q j K (a.put oi.dst v)) :
    qq P ops C0 C1 q j (fun a' => YY P ops C0 C1 q i oi v a' ∧ K (a'.put oi.dst v)) a := by
  obtain ⟨h1, h2, h3⟩ := Oper.apart_spec hap
  obtain ⟨o, u, ho, hyj, hK⟩ := h
  obtain rfl := Option.some.inj (ho.symm.trans hj)
  refine ⟨o, u, hj, hyj.of_same (execOp_put o hsj a oi.dst v h1).symm (wanted_put o a oi.dst v h1).symm, hy.of_same (execOp_put oi hsi a o.dst u h3) (wanted_put oi a o.dst u h3), ?_⟩
  rw [← Act.put_comm a v u h2]
  exact hK

/-- n: where the tail begins; behind the head L holds. -/
def headX (P : Program) (md : Region.Mode) (ops : Array Oper) (C0 C1 : World → Prop) (q n : Nat) (L : Array Bool → Act → Prop) : Nat → Array Bool → Act → Prop
  | 0, ls, a => L ls a
  | f + 1, ls, a => Region.ready md ops ls ≠ [] ∧ ∀ i ∈ Region.ready md ops ls, i < n ∧ qq P ops C0 C1 q i (headX P md ops C0 C1 q n L f (ls.setIfInBounds i true)) a
theorem headX_sound {n g : Nat} {L : Array Bool → Act → Prop} {Q' : Exit → Act → World → Prop} (hL : ∀ ls a w, C1 w → L ls a → wpAny P md ops Q' g ls a w) (hq : ∀ ls a, L ls a → ls.getD q false = true) (f : Nat) :
    ∀ (ls : Array Bool) (a : Act) (w : World), (ls.getD q false = true → C1 w) → (ls.getD q false = false → C0 w) → headX P md ops C0 C1 q n L f ls a → wpAny P md ops Q' (f + g) ls a w := by
  induction f with
  | zero => intro ls a w h1 h0 h; rw [Nat.zero_add]; exact hL _ _ _ (h1 (hq _ _ h)) h
  | succ f ih =>
    intro ls a w h1 h0 h
    rw [show f + 1 + g = (f + g) + 1 by omega]
    refine ⟨fun h0 => absurd h0 h.1, fun i hi => ?_⟩
    obtain ⟨o, v, ho, hy, hK⟩ := (h.2 i hi).2
    have hri := getD_both (mem_ready.1 hi).1
    unfold wpOp
    simp only [ho]
    rcases hy with ⟨hw, ha, hb⟩ | ⟨hw, rfl, hne⟩
    · rw [if_pos hw]
      refine .inl ?_
      unfold Oper.wp
      by_cases e : i = q
      · subst e
        obtain ⟨w', hr, hc⟩ := ha rfl w (h0 hri)
        rw [hr]
        refine ih _ _ w' (fun _ => hc) (fun hf => ?_) hK
        have hlt : i < ls.size := by
          rcases Nat.lt_or_ge i ls.size with h' | h'
          · exact h'
          · have := (mem_ready.1 hi).1
            simp [Array.getElem?_eq_none h'] at this
        simp [hlt] at hf
      · have hcw : C0 w ∨ C1 w := by
          cases hd : ls.getD q false with
          | true => exact .inr (h1 hd)
          | false => exact .inl (h0 hd)
        rw [hb e w hcw]
        refine ih _ _ w (fun h => h1 ?_) (fun h => h0 ?_) hK
        · rwa [getD_set_ne false e] at h
        · rwa [getD_set_ne false e] at h
    · rw [if_neg (by rw [hw]; simp)]
      refine ih _ _ w (fun h => h1 ?_) (fun h => h0 ?_) hK
      · rwa [getD_set_ne false hne] at h
      · rwa [getD_set_ne false hne] at h
theorem headX_first {n i : Nat} {oi : Oper} {v : Value} {L : Array Bool → Act → Prop} (hi : ops[i]? = some oi) (hsel : ∀ (j : Nat) (o : Oper) cs b, ops[j]? = some o → o.op ≠ .select cs b)
    (hs : Region.sinkB md ops n = true) (hc : Region.chainB md ops n = true) (hn : n < ops.size) (hin : i < n)
    (hdone : ∀ ls a, L ls a → ∀ j ∈ Region.ready md ops ls, n ≤ j) (f : Nat) :
    ∀ (ls : Array Bool) (a : Act), HeadInv md ops n ls →
      (∀ j oj, ops[j]? = some oj → j ≠ i → ls.getD j true = false → (∀ e ∈ oj.after, Region.binds md e = true → e.on ≠ i) → oi.apart ops oj = true) →
      i ∈ Region.ready md ops ls → YY P ops C0 C1 q i oi v a →
      headX P md ops C0 C1 q n L f (ls.setIfInBounds i true) (a.put oi.dst v) → headX P md ops C0 C1 q n L (f + 1) ls a := by
  induction f with
  | zero =>
    intro ls a inv _ hr hy H
    refine ⟨fun h => (by rw [h] at hr; cases hr), fun j hj => ?_⟩
    have hjn : j < n := by
      apply Classical.byContradiction
      intro h
      exact absurd hj (tail_waits hs hc hn inv _ i rfl hin (mem_ready.1 hr).1 j (by omega))
    refine ⟨hjn, ?_⟩
    by_cases hji : j = i
    · rw [hji]; exact ⟨oi, v, hi, hy, H⟩
    · exact absurd (hdone _ _ H j (ready_mono hj hji)) (by omega)
  | succ f ih =>
    intro ls a inv hfree hr hy H
    have hun := (mem_ready.1 hr).1
    refine ⟨fun h => (by rw [h] at hr; cases hr), fun j hj => ?_⟩
    have hjn : j < n := by
      apply Classical.byContradiction
      intro h
      exact absurd hj (tail_waits hs hc hn inv _ i rfl hin hun j (by omega))
    refine ⟨hjn, ?_⟩
    by_cases hji : j = i
    · rw [hji]; exact ⟨oi, v, hi, hy, H⟩
    · obtain ⟨hjun, oj, hoj, hall⟩ := mem_ready.1 hj
      have hnot : ∀ e ∈ oj.after, Region.binds md e = true → e.on ≠ i := fun e he hb heq => by
        have := hall e he hb
        rw [heq, getD_both hun] at this
        cases this
      have h2 := qq_put hoj (hfree j oj hoj hji hjun hnot) (fun cs b => hsel i oi cs b hi) (fun cs b => hsel j oj cs b hoj) hy (H.2 j (ready_mono hj hji)).2
      refine qq_mono (fun a' h3 => ?_) h2
      refine ih (ls.setIfInBounds j true) a' (inv.set hj hjn) (fun k ok hk hki hu hno => hfree k ok hk hki ?_ hno) (ready_mono hr (Ne.symm hji)) h3.1 ?_
      · by_cases hjk : j = k
        · rw [← hjk]; exact hjun
        · rwa [getD_set_ne true hjk] at hu
      · rw [Array.setIfInBounds_comm _ _ hji]; exact h3.2
/-- The walk in the order of the text. -/
def wpX (P : Program) (ops : Array Oper) (C0 C1 : World → Prop) (q : Nat) (Lq : Act → Prop) : Nat → List Oper → Act → Prop
  | _, [], a => Lq a
  | k, o :: rest, a => ∃ v, YY P ops C0 C1 q k o v a ∧ wpX P ops C0 C1 q Lq (k + 1) rest (a.put o.dst v)
theorem headX_lex {n g : Nat} {Lq : Act → Prop} (hsel : Region.noSelect ops = true) (hs : Region.sinkB md ops n = true) (hc : Region.chainB md ops n = true) (hn : n < ops.size) (hqn : q < n) (l : List Oper) :
    ∀ (k : Nat) (ls : Array Bool) (a : Act), (∀ j, j < l.length → l[j]? = ops[k + j]?) → k + l.length = n → HeadInv md ops n ls → (q < k → ls.getD q false = true) →
    Region.lexHead md ops g l.length k ls = true → wpX P ops C0 C1 q Lq k l a →
    headX P md ops C0 C1 q n (fun ls' a' => (Region.seqB md ops g n ls' = true ∧ Lq a') ∧ ls'.getD q false = true) l.length ls a := by
  induction l with
  | nil =>
    intro k ls a _ hk _ hqk hB h
    obtain rfl : k = n := by simpa using hk
    exact ⟨⟨by simpa [Region.lexHead] using hB, h⟩, hqk hqn⟩
  | cons o l ih =>
    intro k ls a hl hk inv hqk hB h
    have h0 : ops[k]? = some o := by simpa using (hl 0 (by simp)).symm
    simp only [List.length_cons, Region.lexHead, Bool.and_eq_true] at hB hk
    have hr' : k ∈ Region.ready md ops ls := by simpa using hB.1.1
    obtain ⟨v, hy, hK⟩ := h
    refine headX_first h0 (Region.noSelect_spec hsel) hs hc hn (by omega) (fun ls' a' hL => seqB_ready hL.1.1) l.length ls a inv (Region.free_spec h0 hB.1.2) hr' hy ?_
    refine ih (k + 1) _ _ (fun j hj => ?_) (by omega) (inv.set hr' (by omega)) (fun hq => ?_) hB.2 hK
    · have := hl (j + 1) (by simp; omega)
      simpa [Nat.add_assoc, Nat.add_comm 1 j] using this
    · by_cases e : k = q
      · subst e
        have hlt : k < ls.size := by rw [inv.size]; omega
        simp [hlt]
      · rw [getD_set_ne false e]
        exact hqk (by omega)
/-- A stretch of the text that only reads. -/
theorem wpX_quiet {Lq : Act → Prop} : ∀ (l : List Oper) (k : Nat) (rest : List Oper) (a : Act), (∀ o ∈ l, plainB o = true) → (k + l.length ≤ q ∨ q < k) →
    wpQuiet P ops (fun w => C0 w ∨ C1 w) (fun a' => wpX P ops C0 C1 q Lq (k + l.length) rest a') l a → wpX P ops C0 C1 q Lq k (l ++ rest) a
  | [], k, rest, a, _, _, h => h
  | o :: l, k, rest, a, hp, hk, h => by
    have ho := hp o (by simp)
    simp only [List.length_cons] at hk h
    show ∃ v, _ ∧ _
    have ih : ∀ a', wpQuiet P ops (fun w => C0 w ∨ C1 w) (fun a' => wpX P ops C0 C1 q Lq (k + (l.length + 1)) rest a') l a' → wpX P ops C0 C1 q Lq (k + 1) (l ++ rest) a' :=
      fun a' h' => wpX_quiet (Lq := Lq) l (k + 1) rest a' (fun x hx => hp x (by simp [hx])) (by omega) (by
        rw [show k + 1 + l.length = k + (l.length + 1) by omega]; exact h')
    unfold wpQuiet at h
    by_cases hw : Region.wanted o (yielded ops a.tmps) = true
    · rw [if_pos hw] at h
      obtain ⟨v, hv, hn⟩ := h
      refine ⟨v, .inl ⟨hw, fun e => by omega, fun _ w hw' => ?_⟩, ih _ hn⟩
      have h3 := hv w hw'
      unfold Oper.quietAt at h3
      cases hr : (execOp a.eval o).run P w with
      | ok n w' =>
        rw [hr] at h3
        cases n <;> simp only [Oper.quietUpon] at h3
        case value u => rw [h3.1, h3.2]
        case skip =>
          obtain ⟨rfl, rfl⟩ := h3
          exact absurd hr (plain_skip ho _ _ _)
        case enter f args => exact absurd hr (plain_enter ho _ _ _ _ _)
      | halt x w' => rw [hr] at h3; simp only [Oper.quietUpon] at h3
    · rw [if_neg hw] at h
      exact ⟨undef, .inr ⟨by simpa using hw, rfl, by omega⟩, ih _ h⟩
theorem wpQuiet_mono' {C : World → Prop} {K K' : Act → Prop} (hk : ∀ a, K a → K' a) : ∀ (l : List Oper) (a : Act), wpQuiet P ops C K l a → wpQuiet P ops C K' l a
  | [], a, h => hk a h
  | o :: l, a, h => by
    unfold wpQuiet at *
    by_cases hw : Region.wanted o (yielded ops a.tmps) = true
    · rw [if_pos hw] at *
      obtain ⟨v, h1, h2⟩ := h
      exact ⟨v, h1, wpQuiet_mono' hk l _ h2⟩
    · rw [if_neg hw] at *
      exact wpQuiet_mono' hk l _ h
/-- The first n operations only read, but for number q, which makes memory: W1 behind it; the others come in their order. -/
theorem wp_mk_tail {id : Nat} {Q : Exit → Act → World → Prop} {a : Act} {w W1 : World} {l : List Oper} (R : World → Prop) (q n : Nat) (oq : Oper) (hR : ∀ w', R w' ↔ w' = w.drew ∨ w' = W1) (hm : P.follows .mixedOrders = true) (hB : Region.lexTailB .any l.toArray n = true)
    (hqn : q < n) (hoq : l[q]? = some oq) (hp : ((l.take q).all plainB && ((l.take n).drop (q + 1)).all plainB) = true)
    (h : Nonempty (Cls R) → wpQuiet P l.toArray (fun w' => ∃ x : Cls R, w' = x.w) (fun a' => ∃ v, Region.wanted oq (yielded l.toArray a'.tmps) = true ∧ (execOp a'.eval oq).run P w.drew = .ok (.value v) W1 ∧
      wpQuiet P l.toArray (fun w' => ∃ x : Cls R, w' = x.w) (fun a'' => wpList P l.toArray Q (l.drop n) a'' W1) ((l.take n).drop (q + 1)) (a'.put oq.dst v)) (l.take q) a) : (Code.region id l.toArray true).wp P Q a w := by
  have h := h ⟨⟨w.drew, (hR _).2 (.inl rfl)⟩⟩
  have hcl : (fun w' => ∃ x : Cls R, w' = x.w) = (fun w' => w' = w.drew ∨ w' = W1) := by
    funext w'
    apply propext
    constructor
    · rintro ⟨x, rfl⟩; exact (hR _).1 x.ok
    · intro h; exact ⟨⟨w', (hR _).2 h⟩, rfl⟩
  rw [hcl] at h
  simp only [Bool.and_eq_true, List.all_eq_true] at hp
  simp only [Region.lexTailB, Bool.and_eq_true, decide_eq_true_eq] at hB
  obtain ⟨⟨⟨⟨hsel, hn⟩, hs⟩, hc⟩, hlex⟩ := hB
  have hn' : n < l.length := by simpa using hn
  have htl : (l.take n).length = n := by simp; omega
  have htq : (l.take q).length = q := by simp; omega
  have hdl : (l.drop n).length = l.toArray.size - n := by simp
  have hsp : l.take n = l.take q ++ oq :: (l.take n).drop (q + 1) := by
    have h1 : (l.take n)[q]? = some oq := by rw [List.getElem?_take, if_pos hqn, hoq]
    obtain ⟨h2, h3⟩ := List.getElem?_eq_some_iff.1 h1
    conv => lhs; rw [← List.take_append_drop q (l.take n), List.take_take, Nat.min_eq_left (by omega), List.drop_eq_getElem_cons h2, h3]
  have inv0 : HeadInv .any l.toArray n (Array.replicate l.toArray.size false) :=
    ⟨by simp, fun j oj _ hl => (by rw [getD_replicate_false] at hl; cases hl), fun t _ ht => getD_in (by simpa using ht) (getD_replicate_false _ _)⟩
  have hX : wpX P l.toArray (fun w' => w' = w.drew) (fun w' => w' = W1) q (fun a'' => wpList P l.toArray Q (l.drop n) a'' W1) 0 (l.take n) a := by
    rw [hsp]
    refine wpX_quiet (l.take q) 0 _ a hp.1 (by omega) ?_
    refine wpQuiet_mono' ?_ _ _ h
    rintro a' ⟨v, h1, h2, h3⟩
    rw [Nat.zero_add, htq]
    refine ⟨v, .inl ⟨h1, fun _ w' hw' => ⟨W1, by rw [hw']; exact h2, rfl⟩, fun e => absurd rfl e⟩, ?_⟩
    have := wpX_quiet (P := P) (ops := l.toArray) (C0 := fun w' => w' = w.drew) (C1 := fun w' => w' = W1) (q := q) (Lq := fun a'' => wpList P l.toArray Q (l.drop n) a'' W1) ((l.take n).drop (q + 1)) (q + 1) [] (a'.put oq.dst v) hp.2 (by omega) h3
    rwa [List.append_nil] at this
  have H := headX_lex (md := .any) (g := l.toArray.size - n) hsel hs hc hn hqn (l.take n) 0 _ a (fun j hj => by
    have hj' : j < n := by rw [htl] at hj; exact hj
    simp [hj']) (by simpa using htl) inv0 (fun h => by omega) (by rw [htl]; exact hlex) hX
  refine wp_region_any hm ?_
  have := headX_sound (P := P) (md := .any) (ops := l.toArray) (C0 := fun w' => w' = w.drew) (C1 := fun w' => w' = W1) (q := q) (n := n) (L := fun ls' a' => (Region.seqB .any l.toArray (l.toArray.size - n) n ls' = true ∧ wpList P l.toArray Q (l.drop n) a' W1) ∧ ls'.getD q false = true) (Q' := Q) (g := l.toArray.size - n) (fun ls a' w' hw' hL => by
    have hw' : w' = W1 := hw'
    subst hw'
    have := wpAny_of_seq (md := .any) (Q' := Q) (l.drop n) n ls a' w' (fun j => by simp [List.getElem?_drop]) (by rw [hdl]; exact hL.1.1) hL.1.2
    rwa [hdl] at this) (fun ls a' hL => hL.2) _ _ _ w.drew (fun h => by rw [getD_replicate_false] at h; cases h) (fun _ => rfl) H
  rw [htl, show n + (l.toArray.size - n) = l.toArray.size by omega] at this
  exact this
end
end Go.Proofs.YtndlbkiogagnaaaGreatDoor
