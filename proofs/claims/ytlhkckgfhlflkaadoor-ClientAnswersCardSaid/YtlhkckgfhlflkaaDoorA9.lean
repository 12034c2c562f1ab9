/- law05: Right. -/
import Derived.Test.YtlhkckgfhlflkaaDoorA8
import Derived.Test.YtlhkckgfhlflkaaDoorBy
namespace Go.Proofs.YtlhkckgfhlflkaaDoor
set_option linter.unusedSimpArgs false
set_option linter.unusedVariables false
set_option linter.unnecessarySimpa false
open Go.RowKit BigFrame

/-- May it be a response: the law's own bounds. -/
structure Fits (r : Rs) : Prop where
  right : RightL r
  num : r.fields.length ≤ 20
  each : ∀ f ∈ r.fields, f.1.length + f.2.length ≤ 300
  body : r.body.length ≤ 2000
theorem Fits.flds {r : Rs} (h : Fits r) : (flds r.fields).length ≤ 6080 := by
  have : ∀ l : List (Bs × Bs), (∀ f ∈ l, f.1.length + f.2.length ≤ 300) → (Go.Proofs.YtlhkckgfhlflkaaDoor.flds l).length ≤ 304 * l.length := by
    intro l
    induction l with
    | nil => intro _; simp [Go.Proofs.YtlhkckgfhlflkaaDoor.flds]
    | cons f l ih =>
      intro hl
      have h1 := ih (fun g hg => hl g (by simp [hg]))
      have h2 := hl f (by simp)
      simp only [Go.Proofs.YtlhkckgfhlflkaaDoor.flds, List.flatMap_cons, List.length_append, fieldL, List.length_cons, crlf, List.length_nil] at h1 ⊢
      omega
  have := this r.fields h.each
  have := h.num
  omega
theorem dec_len20 (n : Nat) (h : n ≤ 1000000000000000000) : (Lib.decDigits n).length ≤ 20 := by
  rw [Lib.decDigits_length]
  exact Lib.nDigits_le20 n (by omega)
theorem Fits.enc {r : Rs} (h : Fits r) : (encL r).length ≤ 9000 := by
  have h1 := h.flds
  have h2 := h.body
  have h3 := firstL_len r.status (by have := h.right.st1; omega)
  have h4 := dec_len20 r.body.length (by omega)
  have he : encL r = firstL r.status ++ 13 :: 10 :: (Go.Proofs.YtlhkckgfhlflkaaDoor.flds r.fields ++ ((if r.close then connClose ++ crlf else []) ++ (contLen ++ 58 :: 32 :: Lib.decDigits r.body.length) ++ 13 :: 10 :: 13 :: 10 :: r.body)) := rfl
  have h5 : (if r.close then connClose ++ crlf else []).length ≤ 19 := by split <;> simp [connClose, crlf]
  have h6 : contLen.length = 14 := rfl
  rw [he]
  simp only [List.length_append, List.length_cons]
  omega
def RightP (r : Rs) (w : World) (e : Ending) (w' : World) : Prop := ∃ b, e = .returned (.bool b) ∧ (b = true → Fits r) ∧ Upd [] w w'
/-- A field as the law wants it. -/
def FOk (f : Bs × Bs) : Prop := (13 ∉ f.1 ∧ 58 ∉ f.1 ∧ f.1 ≠ conn ∧ f.1 ≠ contLen ∧ trimL f.2 = f.2 ∧ 13 ∉ f.2) ∧ f.1.length + f.2.length ≤ 300
def BoxW (w : World) (sb fb : Nat) (cs ds : List Value) (W : World) : Prop := Blk W sb cs 26 ∧ Blk W fb ds 44 ∧ Upd [] w W
theorem BoxW.up {w W W' : World} {sb fb : Nat} {cs ds : List Value} (h : BoxW w sb fb cs ds W) (hu : Upd [] W W') : BoxW w sb fb cs ds W' := ⟨hu.blk h.1 (by simp), hu.blk h.2.1 (by simp), h.2.2.trans hu (by simp)⟩

set_option maxHeartbeats 4000000 in
theorem right_ok (r : Rs) (a : Option Addr) (cap : Nat) (w : World) (hf : Rf w a r.fields) (hst : r.status ≤ 9223372036854775807) (hn : r.fields.length ≤ 4611686018427387904) (hb : r.body.length ≤ 4611686018427387904)
    (he : ∀ f ∈ r.fields, f.1.length ≤ 1000000000000000 ∧ f.2.length ≤ 1000000000000000) :
    Calls Tryd.prog 6 #[.agg (r.cells a cap).toArray] w (RightP r w) := by
  have HFT := Hd.mk (show (100 ≤ r.status ∧ r.status ≤ 999) → r.fields.length ≤ 20 → r.body.length ≤ 2000 → (∀ f ∈ r.fields, FOk f) → Fits r from fun h1 h2 h3 h4 => ⟨⟨h1.1, h1.2, fun f hf => (h4 f hf).1, by omega⟩, h2, fun f hf => (h4 f hf).2, h3⟩)
  obtain ⟨n, fs, body, cl⟩ := r
  simp only at hf hst hn hb he HFT
  have HF := Hd.mk hf
  have HE := Hd.mk he
  clear hf he
  simp only [Rs.cells, S]
  obtain ⟨bd, hbd⟩ : ∃ t : ByteArray, (⟨body.toArray⟩ : ByteArray) = t := ⟨_, rfl⟩
  have hbs : bd.size = body.length := by rw [← hbd, S_size]
  simp only [hbd]
  clear hbd
  go_enter Tryd.func6, Tryd.ntmps6
  go_upto_region 1 with (fail)
  have B1 := Blk.new w [.int .i64 n, .slice a fs.length cap, .string bd, .bool cl] 26 _ rfl
  refine wp_abs (fun W => Blk W w.heap.size [.int .i64 n, .slice a fs.length cap, .string bd, .bool cl] 26 ∧ Upd [] w W) ⟨B1, (Upd.refl _ _).alloc _⟩ ?_
  clear B1
  generalize w.heap.size = sb at *
  rintro w1 ⟨b1, u1⟩
  have HB := Hd.mk (And.intro b1 u1)
  have c0 := b1.cell 0
  have c1 := b1.cell 1
  have c2 := b1.cell 2
  have c3 := b1.cell 3
  simp only [List.getElem?_cons_zero, List.getElem?_cons_succ] at c0 c1 c2 c3
  clear b1 u1
  by_cases q1 : n < 100
  · go_wp2_with fail
    go_ret
    exact ⟨false, rfl, by simp, HB.out.2⟩
  by_cases q2 : 999 < n
  · go_wp2_with fail
    go_ret
    exact ⟨false, rfl, by simp, HB.out.2⟩
  by_cases q3 : 20 < fs.length
  · go_wp2_with fail
    go_ret
    exact ⟨false, rfl, by simp, HB.out.2⟩
  by_cases q4 : 2000 < body.length
  · go_wp2_with fail
    go_ret
    exact ⟨false, rfl, by simp, HB.out.2⟩
  have HFT := Hd.mk (HFT.out (by omega) (by omega) (by omega))
  have hn : fs.length ≤ 20 := by omega
  go_wp2_with fail
  go_loopg [4, 6, 30] fs.length (fun g s4 s6 ii wr => ∃ i : Nat, g + i = fs.length ∧ ii = .int .i64 i ∧ Hd ((∀ f ∈ fs.take i, FOk f) ∧ Blk wr sb [.int .i64 n, .slice a fs.length cap, .string bd, .bool cl] 26 ∧ Upd [] w wr))
  case atStart => exact ⟨0, by omega, rfl, Hd.mk ⟨by simp, HB.out⟩⟩
  case round =>
    clear HB c0 c1 c2 c3 q1 q2 q3 q4
    obtain ⟨i, hg, rfl, HB⟩ := hrel
    obtain ⟨gq, hgq⟩ : ∃ x, x = gk := ⟨_, rfl⟩
    rw [← hgq] at hg
    have HGQ := Hd.mk hgq
    clear hgq
    by_cases hi : i < fs.length
    · obtain ⟨b, off, rfl, -, hc⟩ := HF.out.upd HB.out.2.2 (by omega)
      obtain ⟨k0, k1⟩ := hc i hi
      have hsz := HE.out fs[i] (List.getElem_mem hi)
      have HNX := Hd.mk (show FOk fs[i] → ∀ f ∈ fs.take (i + 1), FOk f by
        intro h f hf
        rw [List.take_succ_eq_append_getElem hi] at hf
        rcases List.mem_append.1 hf with hf | hf
        · exact HB.out.1 f hf
        · rw [List.mem_singleton.1 hf]; exact h)
      generalize fs[i] = f at *
      obtain ⟨nml, vll⟩ := f
      obtain ⟨nm, hnm⟩ : ∃ t : ByteArray, (⟨nml.toArray⟩ : ByteArray) = t := ⟨_, rfl⟩
      obtain ⟨vl, hvl⟩ : ∃ t : ByteArray, (⟨vll.toArray⟩ : ByteArray) = t := ⟨_, rfl⟩
      have hns : nm.size = nml.length := by rw [← hnm, S_size]
      have hvs : vl.size = vll.length := by rw [← hvl, S_size]
      simp only [S, hnm, hvl] at k0 k1 hsz
      have hsz2 : nm.size ≤ 1000000000000000 ∧ vl.size ≤ 1000000000000000 := by omega
      have HSZ := Hd.mk (And.intro hns hvs)
      have HNM := Hd.mk (show nm.data.toList = nml by rw [← hnm])
      have HVL := Hd.mk (show vl.data.toList = vll by rw [← hvl])
      have HG := Hd.mk hg
      clear hc hnm hvl hg hsz hns hvs
      go_upto_region 6 with (fail)
      refine wp_abs (fun W => BoxW w sb wr.heap.size [.int .i64 n, .slice (some ⟨b, off, none⟩) fs.length cap, .string bd, .bool cl] [.string nm, .string vl] W) ⟨HB.out.2.1.alloc _, Blk.new wr [.string nm, .string vl] 44 _ rfl, HB.out.2.2.alloc _⟩ ?_
      clear k0 k1 HB
      generalize wr.heap.size = fb at *
      generalize hqa : (some ⟨b, off, none⟩ : Option Addr) = a at *
      clear hqa
      rintro w5 hbx
      have HBX := Hd.mk hbx
      clear hbx
      have f0 : ∀ x : Cls (BoxW w sb fb [.int .i64 n, .slice a fs.length cap, .string bd, .bool cl] [.string nm, .string vl]), x.w.cell? ⟨fb, 0, none⟩ = some (.string nm) := fun x => x.ok.2.1.cell 0
      have f1 : ∀ x : Cls (BoxW w sb fb [.int .i64 n, .slice a fs.length cap, .string bd, .bool cl] [.string nm, .string vl]), x.w.cell? ⟨fb, 1, none⟩ = some (.string vl) := fun x => x.ok.2.1.cell 1
      by_cases p1 : 300 < nm.size + vl.size
      · have P1 : decide ((300 : Int) < (nm.size : Int) + (vl.size : Int)) = true := by simp; omega
        have HTK : Hd True := Hd.mk trivial
        have HLW : Hd True := Hd.mk trivial
        have HTR : Hd True := Hd.mk trivial
        refine wp_region_cls (BoxW w sb fb [.int .i64 n, .slice a fs.length cap, .string bd, .bool cl] [.string nm, .string vl]) (HBX.out.up ((Upd.refl _ _).drew)) (by kernel_rfl) (by kernel_rfl) (fun _ => ?_)
        repeat (go_big_quiet_step (first | (go_at_call 16; rename_i x; exact Calls.cls (token_ok nm _ (by omega)) (fun e w' h => ⟨h.1.trans (by rw [HTK.out]), x.ok.up h.2⟩)) | (go_at_call 17; rename_i x; exact Calls.cls (lower_ok nm _ (by omega)) (fun e w' h => ⟨h.1.trans (by rw [S, HLW.out]), x.ok.up h.2⟩)) | (go_at_call 18; rename_i x; exact Calls.cls (trim_ok vl _ (by omega)) (fun e w' h => ⟨h.1.trans (by rw [HTR.out]), x.ok.up h.2⟩))))
        refine wpQuiet_nil ?_
        intro _ hw'
        obtain ⟨nq, hw''⟩ := hw'
        subst hw''
        go_wp2_with fail
        go_ret
        exact ⟨false, rfl, by simp, nq.ok.2.2⟩
      have P1 : decide ((300 : Int) < (nm.size : Int) + (vl.size : Int)) = false := by simp; omega
      obtain ⟨lw, hlw⟩ : ∃ t : ByteArray, (⟨(lowL nm.data.toList).toArray⟩ : ByteArray) = t := ⟨_, rfl⟩
      obtain ⟨tr, htr⟩ : ∃ t : ByteArray, (⟨(trimL vl.data.toList).toArray⟩ : ByteArray) = t := ⟨_, rfl⟩
      have HLW := Hd.mk hlw
      have HTR := Hd.mk htr
      clear hlw htr
      obtain ⟨tk, htk⟩ : ∃ b, tokB nm.data.toList = b := ⟨_, rfl⟩
      have HTK := Hd.mk htk
      clear htk
      cases tk with
      | false =>
        refine wp_region_cls (BoxW w sb fb [.int .i64 n, .slice a fs.length cap, .string bd, .bool cl] [.string nm, .string vl]) (HBX.out.up ((Upd.refl _ _).drew)) (by kernel_rfl) (by kernel_rfl) (fun _ => ?_)
        repeat (go_big_quiet_step (first | (go_at_call 16; rename_i x; exact Calls.cls (token_ok nm _ (by omega)) (fun e w' h => ⟨h.1.trans (by rw [HTK.out]), x.ok.up h.2⟩)) | (go_at_call 17; rename_i x; exact Calls.cls (lower_ok nm _ (by omega)) (fun e w' h => ⟨h.1.trans (by rw [S, HLW.out]), x.ok.up h.2⟩)) | (go_at_call 18; rename_i x; exact Calls.cls (trim_ok vl _ (by omega)) (fun e w' h => ⟨h.1.trans (by rw [HTR.out]), x.ok.up h.2⟩))))
        refine wpQuiet_nil ?_
        intro _ hw'
        obtain ⟨nq, hw''⟩ := hw'
        subst hw''
        go_wp2_with fail
        go_ret
        exact ⟨false, rfl, by simp, nq.ok.2.2⟩
      | true =>
      by_cases l1 : lw = nm
      rotate_left
      · have e1 := str_no l1
        have e2 : (lw.toList != nm.toList) = true := by simp [bne, e1]
        refine wp_region_cls (BoxW w sb fb [.int .i64 n, .slice a fs.length cap, .string bd, .bool cl] [.string nm, .string vl]) (HBX.out.up ((Upd.refl _ _).drew)) (by kernel_rfl) (by kernel_rfl) (fun _ => ?_)
        repeat (go_big_quiet_step (first | (go_at_call 16; rename_i x; exact Calls.cls (token_ok nm _ (by omega)) (fun e w' h => ⟨h.1.trans (by rw [HTK.out]), x.ok.up h.2⟩)) | (go_at_call 17; rename_i x; exact Calls.cls (lower_ok nm _ (by omega)) (fun e w' h => ⟨h.1.trans (by rw [S, HLW.out]), x.ok.up h.2⟩)) | (go_at_call 18; rename_i x; exact Calls.cls (trim_ok vl _ (by omega)) (fun e w' h => ⟨h.1.trans (by rw [HTR.out]), x.ok.up h.2⟩))))
        refine wpQuiet_nil ?_
        intro _ hw'
        obtain ⟨nq, hw''⟩ := hw'
        subst hw''
        go_wp2_with fail
        go_ret
        exact ⟨false, rfl, by simp, nq.ok.2.2⟩
      have e1 := str_yes l1
      have e2 : (lw.toList != nm.toList) = false := by simp [bne, e1]
      clear l1
      by_cases l2 : nm.data.toList = conn
      · have e3 : (nm.toList == [99, 111, 110, 110, 101, 99, 116, 105, 111, 110]) = true := lit_yes l2
        clear l2
        refine wp_region_cls (BoxW w sb fb [.int .i64 n, .slice a fs.length cap, .string bd, .bool cl] [.string nm, .string vl]) (HBX.out.up ((Upd.refl _ _).drew)) (by kernel_rfl) (by kernel_rfl) (fun _ => ?_)
        repeat (go_big_quiet_step (first | (go_at_call 16; rename_i x; exact Calls.cls (token_ok nm _ (by omega)) (fun e w' h => ⟨h.1.trans (by rw [HTK.out]), x.ok.up h.2⟩)) | (go_at_call 17; rename_i x; exact Calls.cls (lower_ok nm _ (by omega)) (fun e w' h => ⟨h.1.trans (by rw [S, HLW.out]), x.ok.up h.2⟩)) | (go_at_call 18; rename_i x; exact Calls.cls (trim_ok vl _ (by omega)) (fun e w' h => ⟨h.1.trans (by rw [HTR.out]), x.ok.up h.2⟩))))
        refine wpQuiet_nil ?_
        intro _ hw'
        obtain ⟨nq, hw''⟩ := hw'
        subst hw''
        go_wp2_with fail
        go_ret
        exact ⟨false, rfl, by simp, nq.ok.2.2⟩
      have e3 : (nm.toList == [99, 111, 110, 110, 101, 99, 116, 105, 111, 110]) = false := lit_no l2
      have HCN := Hd.mk l2
      clear l2
      by_cases l3 : nm.data.toList = contLen
      · have e4 : (nm.toList == [99, 111, 110, 116, 101, 110, 116, 45, 108, 101, 110, 103, 116, 104]) = true := lit_yes l3
        clear l3
        refine wp_region_cls (BoxW w sb fb [.int .i64 n, .slice a fs.length cap, .string bd, .bool cl] [.string nm, .string vl]) (HBX.out.up ((Upd.refl _ _).drew)) (by kernel_rfl) (by kernel_rfl) (fun _ => ?_)
        repeat (go_big_quiet_step (first | (go_at_call 16; rename_i x; exact Calls.cls (token_ok nm _ (by omega)) (fun e w' h => ⟨h.1.trans (by rw [HTK.out]), x.ok.up h.2⟩)) | (go_at_call 17; rename_i x; exact Calls.cls (lower_ok nm _ (by omega)) (fun e w' h => ⟨h.1.trans (by rw [S, HLW.out]), x.ok.up h.2⟩)) | (go_at_call 18; rename_i x; exact Calls.cls (trim_ok vl _ (by omega)) (fun e w' h => ⟨h.1.trans (by rw [HTR.out]), x.ok.up h.2⟩))))
        refine wpQuiet_nil ?_
        intro _ hw'
        obtain ⟨nq, hw''⟩ := hw'
        subst hw''
        go_wp2_with fail
        go_ret
        exact ⟨false, rfl, by simp, nq.ok.2.2⟩
      have e4 : (nm.toList == [99, 111, 110, 116, 101, 110, 116, 45, 108, 101, 110, 103, 116, 104]) = false := lit_no l3
      have HCL := Hd.mk l3
      clear l3
      by_cases l4 : tr = vl
      rotate_left
      · have e5 := str_no l4
        have e6 : (tr.toList != vl.toList) = true := by simp [bne, e5]
        refine wp_region_cls (BoxW w sb fb [.int .i64 n, .slice a fs.length cap, .string bd, .bool cl] [.string nm, .string vl]) (HBX.out.up ((Upd.refl _ _).drew)) (by kernel_rfl) (by kernel_rfl) (fun _ => ?_)
        repeat (go_big_quiet_step (first | (go_at_call 16; rename_i x; exact Calls.cls (token_ok nm _ (by omega)) (fun e w' h => ⟨h.1.trans (by rw [HTK.out]), x.ok.up h.2⟩)) | (go_at_call 17; rename_i x; exact Calls.cls (lower_ok nm _ (by omega)) (fun e w' h => ⟨h.1.trans (by rw [S, HLW.out]), x.ok.up h.2⟩)) | (go_at_call 18; rename_i x; exact Calls.cls (trim_ok vl _ (by omega)) (fun e w' h => ⟨h.1.trans (by rw [HTR.out]), x.ok.up h.2⟩))))
        refine wpQuiet_nil ?_
        intro _ hw'
        obtain ⟨nq, hw''⟩ := hw'
        subst hw''
        go_wp2_with fail
        go_ret
        exact ⟨false, rfl, by simp, nq.ok.2.2⟩
      have e5 := str_yes l4
      have e6 : (tr.toList != vl.toList) = false := by simp [bne, e5]
      have HTV := Hd.mk l4
      clear l4
      refine wp_region_cls (BoxW w sb fb [.int .i64 n, .slice a fs.length cap, .string bd, .bool cl] [.string nm, .string vl]) (HBX.out.up ((Upd.refl _ _).drew)) (by kernel_rfl) (by kernel_rfl) (fun _ => ?_)
      repeat (go_big_quiet_step (first | (go_at_call 16; rename_i x; exact Calls.cls (token_ok nm _ (by omega)) (fun e w' h => ⟨h.1.trans (by rw [HTK.out]), x.ok.up h.2⟩)) | (go_at_call 17; rename_i x; exact Calls.cls (lower_ok nm _ (by omega)) (fun e w' h => ⟨h.1.trans (by rw [S, HLW.out]), x.ok.up h.2⟩)) | (go_at_call 18; rename_i x; exact Calls.cls (trim_ok vl _ (by omega)) (fun e w' h => ⟨h.1.trans (by rw [HTR.out]), x.ok.up h.2⟩))))
      refine wpQuiet_nil ?_
      intro _ hw'
      obtain ⟨nq, hw''⟩ := hw'
      subst hw''
      have HB5 := Hd.mk nq.ok
      generalize nq.w = wq at HB5 ⊢
      have g1 := HB5.out.2.1.cell 1
      simp only [List.getElem?_cons_zero, List.getElem?_cons_succ] at g1
      clear f0 f1 e1 e2 e3 e4 e5 e6 P1 HBX
      have hvl3 : vl.size ≤ 300 := by omega
      go_wp2_with (first | (refine wpList_bytes rfl 9 52 5 (.tmp 75) rfl vl rfl Tryd.underlying9 Tryd.underlying52 Tryd.underlying5 ?_))
      intro bb cp w6 hb u6 hb1 hb2
      have HB6 := Hd.mk (HB5.out.up u6)
      have HBB := Hd.mk hb
      clear hb u6 HB5 g1
      go_wp2_with fail
      go_loopg [6, 78] vl.size (fun g s6 ii wq => ∃ j : Nat, g + j = vl.size ∧ ii = .int .i64 j ∧ wq = w6 ∧ Hd (13 ∉ vl.data.toList.take j))
      case atStart => exact ⟨0, by omega, rfl, rfl, Hd.mk (by simp)⟩
      case round =>
        obtain ⟨j, hgj, rfl, rfl, HJ⟩ := hrel
        by_cases hjl : j < vl.size
        · have b0 := HBB.out j hjl
          have HTJ : Hd (vl.data.toList.take (j + 1) = vl.data.toList.take j ++ [vl[j]]) := Hd.mk (by rw [List.take_succ_eq_append_getElem (by simpa using hjl)]; rfl)
          have HGJ := Hd.mk hgj
          clear hgj
          have D1 : ((vl[j].toNat : Int) == 13) = decide (vl[j].toNat = 13) := bq _ 13
          have D2 : ((vl[j].toNat : Int) == 10) = decide (vl[j].toNat = 10) := bq _ 10
          by_cases d1 : vl[j].toNat = 13
          · rw [decide_eq_true d1] at D1
            go_wp2_with fail
            go_ret
            exact ⟨false, rfl, by simp, HB6.out.2.2⟩
          · rw [decide_eq_false d1] at D1
            by_cases d2 : vl[j].toNat = 10
            · rw [decide_eq_true d2] at D2
              go_wp2_with fail
              go_ret
              exact ⟨false, rfl, by simp, HB6.out.2.2⟩
            · rw [decide_eq_false d2] at D2
              have HD1 := Hd.mk d1
              clear d1 d2
              go_wp2_with fail
              go_roundg (gk - 1)
              case measure => have := HGJ.out; omega
              case rel => exact ⟨j + 1, by have := HGJ.out; omega, by go_num, rfl, Hd.mk (by
                rw [HTJ.out]
                simp only [List.mem_append, List.mem_singleton, not_or]
                exact ⟨HJ.out, fun e => HD1.out (by rw [← e]; rfl)⟩)⟩
        · obtain rfl : j = vl.size := by omega
          have HN13 := Hd.mk (show 13 ∉ vl.data.toList by have := HJ.out; rw [show vl.size = vl.data.toList.length by simp, List.take_length] at this; exact this)
          clear hgj
          go_wp2_with fail
          go_roundg (gq - 1)
          case measure => have := HG.out; have := HGQ.out; omega
          case rel => exact ⟨i + 1, by have := HG.out; omega, by go_num, Hd.mk ⟨HNX.out (by
            have ht := tokB_no HTK.out
            have hs := HSZ.out
            rw [HNM.out] at ht
            refine ⟨⟨ht.1, ht.2, fun e => HCN.out ?_, fun e => HCL.out ?_, ?_, ?_⟩, ?_⟩
            · rw [HNM.out]; exact e
            · rw [HNM.out]; exact e
            · have := congrArg (fun t : ByteArray => t.data.toList) (HTR.out.trans HTV.out)
              rw [HVL.out] at this
              simpa using this
            · rw [← HVL.out]; exact HN13.out
            · show nml.length + vll.length ≤ 300
              omega), HB6.out.1, HB6.out.2.2⟩⟩
    · obtain rfl : i = fs.length := by omega
      have HFT := Hd.mk (HFT.out (by have := HB.out.1; rw [List.take_length] at this; exact this))
      go_wp2_with fail
      go_ret
      exact ⟨true, rfl, fun _ => HFT.out, HB.out.2.2⟩
end Go.Proofs.YtlhkckgfhlflkaaDoor
