/- Texts as rows of bytes. -/
import Derived.Test.YtlhkckgfhlflkaaDoorSl
import Derived.Lib.ConvBytes
import Derived.Laws.IdiomStrings
namespace Go.Proofs.YtlhkckgfhlflkaaDoor
set_option linter.unusedSimpArgs false
set_option linter.unusedVariables false
set_option linter.unnecessarySimpa false
open Go.RowKit

/-- The bytes of s stand in block b. -/
def BytesAt (w : World) (b : Nat) (s : ByteArray) : Prop := ∀ j (h : j < s.size), w.cell? ⟨b, j, none⟩ = some (.int .u8 (s[j].toNat : Int))
theorem BytesAt.upd {w w' : World} {b : Nat} {s : ByteArray} {S : List Nat} (h : BytesAt w b s) (hu : Upd S w w') (hb : b < w.heap.size) (hS : b ∉ S) : BytesAt w' b s :=
  fun j hj => (hu.cell (p := ⟨b, j, none⟩) hb hS).trans (h j hj)

section
variable {P : Program}
theorem upd_bytesWorld (w : World) (e : TypeId) (s : ByteArray) : Upd [] w (Lib.bytesWorld w e s) := by
  refine ⟨?_, ?_, ?_, by rw [Lib.bytesWorld_size]; omega, fun k hk _ => Lib.bytesWorld_at_old w e s k hk⟩ <;>
  · simp [Lib.bytesWorld, World.freeze]
    try rfl

theorem wpList_bytes {ops : Array Oper} {rest : List Oper} {o : Oper} {a : Act} {w : World} {Q : Exit → Act → World → Prop} (hgd : o.guard = none) (src dst e : TypeId) (x : Operand)
    (ho : o.op = .convert src dst x) (s : ByteArray) (hx : a.eval x = .string s) (hs : P.underlying src = some .string) (hd : P.underlying dst = some (.slice e)) (he : P.underlying e = some (.int .u8))
    (h : ∀ b cap w', BytesAt w' b s → Upd [] w w' → w.heap.size ≤ b → b < w'.heap.size → wpList P ops Q rest (a.put o.dst (.slice (some ⟨b, 0, none⟩) s.size cap)) w') : wpList P ops Q (o :: rest) a w := by
  refine wpList_plain hgd fun K hK => ?_
  have hr := Lib.run_convert_string_bytes (P := P) w src dst e s hs hd he
  unfold Oper.wp execOp
  simp only [ho, hx, Sem.run_bind, Sem.run_pure, Result.andThen_ok, hr]
  refine hK _ _ (h _ _ _ (fun j hj => ?_) (upd_bytesWorld w e s) (Nat.le_refl _) (by rw [Lib.bytesWorld_size]; omega))
  rw [Lib.bytesWorld_cell w e s j hj]
  have : s.data.toList.getD j 0 = s[j] := by
    simp [List.getD, hj]
    rfl
  rw [this]

/-- string(b) of one byte. -/
theorem wpList_str1 {ops : Array Oper} {rest : List Oper} {o : Oper} {a : Act} {w : World} {Q : Exit → Act → World → Prop} (hgd : o.guard = none) (src dst e : TypeId) (x : Operand)
    (ho : o.op = .convert src dst x) (b off cap : Nat) (d : Int) (hx : a.eval x = .slice (some ⟨b, off, none⟩) 1 cap) (hs : P.underlying src = some (.slice e)) (he : P.underlying e = some (.int .u8)) (hd : P.underlying dst = some .string)
    (h0 : 0 ≤ d) (h1 : d < 256) (hc : w.cell? ⟨b, off, none⟩ = some (.int .u8 d))
    (h : wpList P ops Q rest (a.put o.dst (.string ⟨#[UInt8.ofNat d.toNat]⟩)) w) : wpList P ops Q (o :: rest) a w := by
  refine wpList_plain hgd fun K hK => ?_
  have hr := run_convert_bytes_back (P := P) w src dst e ⟨b, off, none⟩ cap [UInt8.ofNat d.toNat] hs he hd (fun j hj => by
    have : j = 0 := by simpa using hj
    subst this
    rw [Addr.add_lit, Nat.add_zero, hc]
    have e : (UInt8.ofNat d.toNat).toNat = d.toNat := by rw [UInt8.toNat_ofNat']; omega
    simp only [List.getElem_cons_zero, e]
    rw [Int.toNat_of_nonneg h0])
  unfold Oper.wp execOp
  simp only [ho, hx, Sem.run_bind, Sem.run_pure, Result.andThen_ok]
  simp only [List.length_cons, List.length_nil, Nat.zero_add] at hr
  rw [hr]
  exact hK _ _ h
end
end Go.Proofs.YtlhkckgfhlflkaaDoor
