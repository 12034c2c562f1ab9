/- Chain: a call, an answer that came in; light. -/
import Derived.Test.YtghjdjbjdjbkkaaDoorK4
import Derived.Test.YtghjdjbjdjbkkaaDoorFlat

namespace Go.Proofs.YtghjdjbjdjbkkaaDoor
set_option linter.unusedSimpArgs false
set_option linter.unusedVariables false
set_option linter.unnecessarySimpa false
open Go.RowKit BigFrame

/-- Texts that came in. -/
def Rds (w : World) (a : Option Addr) (xs : List ByteArray) : Prop := 0 < xs.length → ∃ b off, a = some ⟨b, off, none⟩ ∧ b < w.heap.size ∧ ∀ i (h : i < xs.length), w.cell? ⟨b, off + i, none⟩ = some (.string xs[i])
theorem Rds.upd {w w' : World} {a : Option Addr} {xs : List ByteArray} (h : Rds w a xs) (hu : Upd [] w w') : Rds w' a xs := by
  intro h0
  obtain ⟨b, off, ha, hb, hc⟩ := h h0
  have hsz := hu.size
  exact ⟨b, off, ha, by omega, fun i hi => (hu.cell (p := ⟨b, _, none⟩) hb (by simp)).trans (hc i hi)⟩
theorem leaf_ss {w : World} {a : Option Addr} {n cap : Nat} (h : Leaf.ok w (.sl [.str]) (.slice a n cap)) :
    ∃ xs : List ByteArray, xs.length = n ∧ Rds w a xs ∧ n ≤ 140737488351232 ∧ ∀ x ∈ xs, x.size ≤ 140737488351232 := by
  have hn : n ≤ 140737488351232 := by
    simp only [Leaf.ok] at h
    obtain ⟨_, _, _, _, e, -, -, hz, -⟩ := h
    simp only [Value.slice.injEq] at e
    omega
  by_cases h0 : 0 < n
  · obtain ⟨b, off, V, rfl, hb, hm, hV⟩ := Leaf.open h h0 (by simp)
    have hx : ∀ i : Nat, ∃ x : ByteArray, i < n → V i = [.string x] ∧ x.size ≤ 140737488351232 := by
      intro i
      by_cases hi : i < n
      · have := (hV i hi).1
        simp only [Leaf.oks, Leaf.ok] at this
        obtain ⟨_, _, hv, ⟨x, rfl, h1⟩, rfl⟩ := this
        exact ⟨x, fun _ => ⟨hv, h1⟩⟩
      · exact ⟨⟨#[]⟩, fun h => absurd h hi⟩
    obtain ⟨F, hF⟩ := Classical.axiomOfChoice hx
    refine ⟨(List.range n).map F, by simp, fun _ => ⟨b, off, rfl, hb, fun i hi => ?_⟩, hn, fun f hf => ?_⟩
    · have hi : i < n := by simpa using hi
      have h1 := (hV i hi).2 0 (by simp)
      rw [(hF i hi).1] at h1
      simp only [List.length_cons, List.length_nil, Nat.zero_add, List.getElem?_cons_zero, Nat.add_zero, Nat.mul_one] at h1
      simp only [List.getElem_map, List.getElem_range]
      exact h1
    · obtain ⟨i, hi, rfl⟩ := List.mem_map.1 hf
      exact (hF i (by simpa using hi)).2
  · obtain rfl : n = 0 := by omega
    exact ⟨[], rfl, fun h => by simp at h, hn, by simp⟩
theorem leaf_fs {w : World} {a : Option Addr} {n cap : Nat} (h : Leaf.ok w (.sl [.str, .str]) (.slice a n cap)) :
    ∃ fs : List (ByteArray × ByteArray), fs.length = n ∧ Rf w a fs ∧ n ≤ 140737488351232 ∧ ∀ f ∈ fs, f.1.size ≤ 140737488351232 ∧ f.2.size ≤ 140737488351232 := by
  have hn : n ≤ 140737488351232 := by
    simp only [Leaf.ok] at h
    obtain ⟨_, _, _, _, e, -, -, hz, -⟩ := h
    simp only [Value.slice.injEq] at e
    omega
  by_cases h0 : 0 < n
  · obtain ⟨b, off, V, rfl, hb, hm, hV⟩ := Leaf.open h h0 (by simp)
    have hx : ∀ i : Nat, ∃ f : ByteArray × ByteArray, i < n → V i = [.string f.1, .string f.2] ∧ f.1.size ≤ 140737488351232 ∧ f.2.size ≤ 140737488351232 := by
      intro i
      by_cases hi : i < n
      · have := (hV i hi).1
        simp only [Leaf.oks, Leaf.ok] at this
        obtain ⟨_, _, hv, ⟨x, rfl, h1⟩, _, _, rfl, ⟨y, rfl, h2⟩, rfl⟩ := this
        exact ⟨(x, y), fun _ => ⟨hv, h1, h2⟩⟩
      · exact ⟨(⟨#[]⟩, ⟨#[]⟩), fun h => absurd h hi⟩
    obtain ⟨F, hF⟩ := Classical.axiomOfChoice hx
    refine ⟨(List.range n).map F, by simp, fun _ => ⟨b, off, rfl, hb, fun i hi => ?_⟩, hn, fun f hf => ?_⟩
    · have hi : i < n := by simpa using hi
      have h1 := (hV i hi).2 0 (by simp)
      have h2 := (hV i hi).2 1 (by simp)
      rw [(hF i hi).1] at h1 h2
      simp only [List.length_cons, List.length_nil, Nat.zero_add, List.getElem?_cons_zero, List.getElem?_cons_succ, Nat.add_zero, Nat.reduceAdd] at h1 h2
      simp only [List.getElem_map, List.getElem_range]
      exact ⟨h1, by rw [Nat.add_assoc]; exact h2⟩
    · obtain ⟨i, hi, rfl⟩ := List.mem_map.1 hf
      exact (hF i (by simpa using hi)).2
  · obtain rfl : n = 0 := by omega
    exact ⟨[], rfl, Rf.nil _ _, hn, by simp⟩
/-- A call that came in. -/
structure CameC (w : World) (c : Cc) (fa : Option Addr) (fcap : Nat) (fs : List (ByteArray × ByteArray)) (aa : Option Addr) (acap : Nat) (xs : List ByteArray) : Prop where
  fields : c.fields = .slice fa fs.length fcap
  allow : c.allow = .slice aa xs.length acap
  rf : Rf w fa fs
  ra : Rds w aa xs
  zf : ∀ f ∈ fs, f.1.size ≤ 140737488351232 ∧ f.2.size ≤ 140737488351232
  za : ∀ x ∈ xs, x.size ≤ 140737488351232
  nf : fs.length ≤ 140737488351232
  na : xs.length ≤ 140737488351232
  z1 : c.method.size ≤ 140737488351232
  z2 : c.target.size ≤ 140737488351232
  z3 : c.body.size ≤ 140737488351232
  z4 : c.token.size ≤ 140737488351232
  k1 : (Lit.int .i64 c.conn).wf = true
  k2 : (Lit.int .i64 c.seq).wf = true
  k3 : (Lit.int .i64 c.version).wf = true
theorem CameC.upd {w w' : World} {c : Cc} {fa aa : Option Addr} {fcap acap : Nat} {fs : List (ByteArray × ByteArray)} {xs : List ByteArray} (h : CameC w c fa fcap fs aa acap xs) (hu : Upd [] w w') : CameC w' c fa fcap fs aa acap xs :=
  { h with rf := h.rf.upd hu, ra := h.ra.upd hu }
def loI (k : Int) : Prop := -4611686018427387904 < k
/-- What light tells. -/
def LightQ (c : Cc) (w : World) (e : Ending) (w' : World) : Prop := ∃ b, e = .returned (.bool b) ∧ (b = true → (okI c.conn ∧ okI c.seq ∧ okI c.version) ∧ loI c.conn ∧ loI c.seq ∧ loI c.version) ∧ Upd [] w w'
theorem wf_ok {k : Int} (h : (Lit.int .i64 k).wf = true) : okI k := by
  have h2 : IntKind.i64.min ≤ k ∧ k ≤ IntKind.i64.max := by simpa [Lit.wf] using h
  have e2 : IntKind.i64.max = 9223372036854775807 := rfl
  have e1 : IntKind.i64.min = -9223372036854775808 := rfl
  unfold okI
  omega
set_option maxRecDepth 100000 in
set_option maxHeartbeats 2000000 in
theorem light_ok (c : Cc) (fa aa : Option Addr) (fcap acap : Nat) (fs : List (ByteArray × ByteArray)) (xs : List ByteArray) (w : World) (h : CameC w c fa fcap fs aa acap xs) :
    Calls Tryd.prog 14 #[.agg c.cells.toArray] w (LightQ c w) := by
  have HC := Hd.mk h
  have B1 := Blk.new w c.cells 34 _ rfl
  have HB := Hd.mk (And.intro B1 ((Upd.refl [] w).alloc (.cells c.cells.toArray 34)))
  clear h B1
  obtain ⟨mm, tg, fl, bo, cs, cn, sq, vr, hd, pr, aw, fd, tk⟩ := c
  have hfl := HC.out.fields
  have haw := HC.out.allow
  have z1 := HC.out.z1
  have z2 := HC.out.z2
  have z3 := HC.out.z3
  have z4 := HC.out.z4
  have nf := HC.out.nf
  have na := HC.out.na
  simp only at hfl haw z1 z2 z3 z4
  subst hfl haw
  simp only [Cc.cells] at *
  go_enter Tryd.func14, Tryd.ntmps14
  go_upto_region 1 with (fail)
  refine wp_abs (fun W => Blk W w.heap.size [.string mm, .string tg, .slice fa fs.length fcap, .string bo, .bool cs, .int .i64 cn, .int .i64 sq, .int .i64 vr, .string hd, pr, .slice aa xs.length acap, .bool fd, .string tk] 34 ∧ Upd [] w W) HB.out ?_
  clear HB
  generalize w.heap.size = cb
  rintro w1 ⟨b1, u1⟩
  have HB := Hd.mk (And.intro b1 u1)
  have c0 := b1.cell 0
  have c1 := b1.cell 1
  have c2 := b1.cell 2
  have c3 := b1.cell 3
  have c4 := b1.cell 4
  have c5 := b1.cell 5
  have c6 := b1.cell 6
  have c7 := b1.cell 7
  have c8 := b1.cell 8
  have c9 := b1.cell 9
  have c10 := b1.cell 10
  have c11 := b1.cell 11
  have c12 := b1.cell 12
  simp only [List.getElem?_cons_zero, List.getElem?_cons_succ] at c0 c1 c2 c3 c4 c5 c6 c7 c8 c9 c10 c11 c12
  clear b1 u1
  go_upto_region 3 with (fail)
  go_loopg [3, 5, 30] fs.length (fun g s3 s5 ii wr => ∃ (i : Nat) (z : Int), g + i = fs.length ∧ ii = .int .i64 i ∧ s3 = .int .i64 z ∧ Hd (Blk wr cb [.string mm, .string tg, .slice fa fs.length fcap, .string bo, .bool cs, .int .i64 cn, .int .i64 sq, .int .i64 vr, .string hd, pr, .slice aa xs.length acap, .bool fd, .string tk] 34 ∧ Upd [] w wr))
  case atStart => exact ⟨0, _, by omega, rfl, rfl, HB⟩
  case round =>
    clear HB c0 c1 c2 c3 c4 c5 c6 c7 c8 c9 c10 c11 c12
    obtain ⟨i, z, hg, rfl, rfl, HB⟩ := hrel
    by_cases hi : i < fs.length
    · obtain ⟨b, off, rfl, hbw, hc⟩ := (HC.out.upd HB.out.2).rf (by omega)
      obtain ⟨k0, k1⟩ := hc i hi
      obtain ⟨y1, y2⟩ := HC.out.zf _ (List.getElem_mem hi)
      generalize fs[i].1 = nm at k0 y1
      generalize fs[i].2 = vl at k1 y2
      have HG := Hd.mk hg
      clear hc hg
      go_upto_region 5 with (fail)
      refine wp_abs (fun W => (Blk W cb [.string mm, .string tg, .slice (some ⟨b, off, none⟩) fs.length fcap, .string bo, .bool cs, .int .i64 cn, .int .i64 sq, .int .i64 vr, .string hd, pr, .slice aa xs.length acap, .bool fd, .string tk] 34 ∧ Upd [] w W) ∧ Blk W wr.heap.size [.string nm, .string vl] 44) ⟨⟨HB.out.1.alloc _, HB.out.2.alloc _⟩, Blk.new wr [.string nm, .string vl] 44 _ rfl⟩ ?_
      clear k0 k1 HB hbw
      generalize wr.heap.size = fb
      rintro w5 ⟨hu, tb⟩
      have HB := Hd.mk hu
      have c0 := tb.cell 0
      have c1 := tb.cell 1
      simp only [List.getElem?_cons_zero, List.getElem?_cons_succ] at c0 c1
      clear hu tb
      go_wp2_with fail
      go_roundg (gk - 1)
      case measure => have := HG.out; omega
      case rel => exact ⟨i + 1, _, by have := HG.out; omega, by go_num, rfl, HB⟩
    · obtain rfl : i = fs.length := by omega
      have b1 := HB.out.1
      have c0 := b1.cell 0
      have c1 := b1.cell 1
      have c2 := b1.cell 2
      have c3 := b1.cell 3
      have c4 := b1.cell 4
      have c5 := b1.cell 5
      have c6 := b1.cell 6
      have c7 := b1.cell 7
      have c8 := b1.cell 8
      have c9 := b1.cell 9
      have c10 := b1.cell 10
      have c11 := b1.cell 11
      have c12 := b1.cell 12
      simp only [List.getElem?_cons_zero, List.getElem?_cons_succ] at c0 c1 c2 c3 c4 c5 c6 c7 c8 c9 c10 c11 c12
      clear b1 hi hg
      go_wp2_with fail
      go_loopg [3, 7, 48] xs.length (fun g s3 s7 ii wq => ∃ (i : Nat) (z : Int), g + i = xs.length ∧ ii = .int .i64 i ∧ s3 = .int .i64 z ∧ wq = wr)
      case atStart => exact ⟨0, _, by omega, rfl, rfl, rfl⟩
      case round =>
        obtain ⟨j, z, hg, rfl, rfl, rfl⟩ := hrel
        by_cases hj : j < xs.length
        · obtain ⟨b, off, rfl, hbw, hc⟩ := (HC.out.upd HB.out.2).ra (by omega)
          have k0 := hc j hj
          have y1 := HC.out.za _ (List.getElem_mem hj)
          generalize xs[j] = x at k0 y1
          have HG := Hd.mk hg
          clear hc hg
          go_wp2_with fail
          go_roundg (gk - 1)
          case measure => have := HG.out; omega
          case rel => exact ⟨j + 1, _, by have := HG.out; omega, by go_num, rfl, rfl⟩
        · obtain rfl : j = xs.length := by omega
          clear hj hg
          have o1 := wf_ok HC.out.k1
          have o2 := wf_ok HC.out.k2
          have o3 := wf_ok HC.out.k3
          simp only at o1 o2 o3
          have HO := Hd.mk (And.intro o1 (And.intro o2 o3))
          clear o1 o2 o3
          by_cases q0 : z < 3000
          rotate_left
          · have d0 : decide (z < 3000) = false := decide_eq_false q0
            go_wp2_with fail
            go_ret
            exact ⟨false, rfl, by simp, HB.out.2⟩
          have d0 : decide (z < 3000) = true := decide_eq_true q0
          by_cases q1 : (fs.length : Int) < 40
          rotate_left
          · have d1 : decide ((fs.length : Int) < 40) = false := decide_eq_false q1
            go_wp2_with fail
            go_ret
            exact ⟨false, rfl, by simp, HB.out.2⟩
          have d1 : decide ((fs.length : Int) < 40) = true := decide_eq_true q1
          by_cases q2 : (xs.length : Int) < 40
          rotate_left
          · have d2 : decide ((xs.length : Int) < 40) = false := decide_eq_false q2
            go_wp2_with fail
            go_ret
            exact ⟨false, rfl, by simp, HB.out.2⟩
          have d2 : decide ((xs.length : Int) < 40) = true := decide_eq_true q2
          by_cases q3 : (-4611686018427387904 : Int) < cn
          rotate_left
          · have d3 : decide ((-4611686018427387904 : Int) < cn) = false := decide_eq_false q3
            go_wp2_with fail
            go_ret
            exact ⟨false, rfl, by simp, HB.out.2⟩
          have d3 : decide ((-4611686018427387904 : Int) < cn) = true := decide_eq_true q3
          by_cases q4 : (-4611686018427387904 : Int) < sq
          rotate_left
          · have d4 : decide ((-4611686018427387904 : Int) < sq) = false := decide_eq_false q4
            go_wp2_with fail
            go_ret
            exact ⟨false, rfl, by simp, HB.out.2⟩
          have d4 : decide ((-4611686018427387904 : Int) < sq) = true := decide_eq_true q4
          by_cases q5 : (-4611686018427387904 : Int) < vr
          rotate_left
          · have d5 : decide ((-4611686018427387904 : Int) < vr) = false := decide_eq_false q5
            go_wp2_with fail
            go_ret
            exact ⟨false, rfl, by simp, HB.out.2⟩
          have d5 : decide ((-4611686018427387904 : Int) < vr) = true := decide_eq_true q5
          have HO := Hd.mk (And.intro HO.out (And.intro (show loI cn from q3) (And.intro (show loI sq from q4) (show loI vr from q5))))
          go_wp2_with fail
          go_ret
          exact ⟨true, rfl, fun _ => HO.out, HB.out.2⟩
end Go.Proofs.YtghjdjbjdjbkkaaDoor
