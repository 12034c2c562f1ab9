/- The net laws' fit; NetCloses. -/
import Derived.Test.YtpjkckhgkaefdaaN2
import Derived.Test.YtpjkckhgkaefdaaN5
import Derived.Test.YtpjkckhgkaefdaaBits

namespace Go.Proofs.Ytpjkckhgkaefdaa
set_option linter.unusedSimpArgs false
set_option linter.unusedVariables false
set_option linter.unnecessarySimpa false
open Go.RowKit BigFrame

theorem IsN.empty (w : World) : NetAt (w.alloc (.cells #[.slice none 0 0, .slice none 0 0] 27)) w.heap.size 0 (fun _ => Cn.new) [] [w.heap.size] :=
  ⟨.slice none 0 0, .slice none 0 0, fun _ => 0, fun _ => .slice none 0 0, ⟨Blk.new w [.slice none 0 0, .slice none 0 0] 27 _ rfl, Sl.nil _ _ _, Sl.nil _ _ _, by omega, by omega, by omega, by omega, by simp⟩, by simp [foot, ownB]⟩

/-- A net of the law's own: it holds n connections; what there was before is as it was. -/
def Own (w0 w : World) (p n : Nat) (M : Nat → Cn) (D : List Nat) : Prop := ∃ F, NetAt w p n M D F ∧ Upd [] w0 w ∧ ∀ k, k ∈ F → w0.heap.size ≤ k
theorem Own.step {w0 w w' : World} {p n' : Nat} {M' : Nat → Cn} {D' : List Nat} {F : List Nat} (h : Stepd w w' p n' M' D' F) (hu : Upd [] w0 w) (hF : ∀ k, k ∈ F → w0.heap.size ≤ k) : Own w0 w' p n' M' D' := by
  obtain ⟨F', h1, h2, h3⟩ := h
  refine ⟨F', h1, hu.trans h2 (fun k hk e => by have := hF k e; omega), fun k hk => ?_⟩
  have := hu.size
  rcases h3 k hk with h | h
  · exact hF k h
  · omega
theorem Own.quiet {w0 w : World} {p n : Nat} {M : Nat → Cn} {D : List Nat} (h : Own w0 w p n M D) (k : Nat) : Own w0 (w.drewN k) p n M D := by
  obtain ⟨F, h1, h2, h3⟩ := h
  exact ⟨F, h1.upd ((Upd.refl [] w).drewN k) (by simp), h2.drewN k, h3⟩
theorem Own.alloc {w0 w : World} {p n : Nat} {M : Nat → Cn} {D : List Nat} (h : Own w0 w p n M D) (o : Obj) : Own w0 (w.alloc o) p n M D := by
  obtain ⟨F, h1, h2, h3⟩ := h
  exact ⟨F, h1.upd ((Upd.refl [] w).alloc o) (by simp), h2.alloc o, h3⟩

theorem o_dial (w0 : World) (p n : Nat) (M : Nat → Cn) (D : List Nat) (w : World) (h : Own w0 w p n M D) (hn : n ≤ 1000000) (hl : D.length ≤ 1000000) :
    Calls Try.prog 8 #[.pointer (some ⟨p, 0, none⟩)] w fun e w' => e = .returned (.int .i64 n) ∧ Own w0 w' p (n + 1) (dialTo M n) (D ++ [n]) := by
  obtain ⟨F, h1, h2, h3⟩ := h
  exact (dial_ok p n M D F w h1 hn hl).mono fun e w' h => ⟨h.1, Own.step h.2 h2 h3⟩

theorem o_shut_none (w0 : World) (p n : Nat) (M : Nat → Cn) (D : List Nat) (w : World) (i : Int) (h : Own w0 w p n M D) (hi : i < 0 ∨ (n : Int) ≤ i) :
    Calls Try.prog 17 #[.pointer (some ⟨p, 0, none⟩), .int .i64 i] w fun e w' => e = .returned (.bool false) ∧ Own w0 w' p n M D := by
  obtain ⟨F, h1, h2, h3⟩ := h
  exact (shut_none p n M D F w i h1 hi).mono fun e w' h => ⟨h.1, Own.step h.2 h2 h3⟩

theorem o_reset_none (w0 : World) (p n : Nat) (M : Nat → Cn) (D : List Nat) (w : World) (i : Int) (h : Own w0 w p n M D) (hi : i < 0 ∨ (n : Int) ≤ i) :
    Calls Try.prog 16 #[.pointer (some ⟨p, 0, none⟩), .int .i64 i] w fun e w' => e = .returned (.bool false) ∧ Own w0 w' p n M D := by
  obtain ⟨F, h1, h2, h3⟩ := h
  exact (reset_none p n M D F w i h1 hi).mono fun e w' h => ⟨h.1, Own.step h.2 h2 h3⟩

theorem o_close_none (w0 : World) (p n : Nat) (M : Nat → Cn) (D : List Nat) (w : World) (i : Int) (h : Own w0 w p n M D) (hi : i < 0 ∨ (n : Int) ≤ i) :
    Calls Try.prog 15 #[.pointer (some ⟨p, 0, none⟩), .int .i64 i] w fun e w' => e = .returned (.tuple #[]) ∧ Own w0 w' p n M D := by
  obtain ⟨F, h1, h2, h3⟩ := h
  exact (close_none p n M D F w i h1 hi).mono fun e w' h => ⟨h.1, Own.step h.2 h2 h3⟩

theorem o_write_none (w0 : World) (p n : Nat) (M : Nat → Cn) (D : List Nat) (w : World) (i : Int) (s : ByteArray) (h : Own w0 w p n M D) (hi : i < 0 ∨ (n : Int) ≤ i) :
    Calls Try.prog 14 #[.pointer (some ⟨p, 0, none⟩), .int .i64 i, .string s] w fun e w' => e = .returned (.tuple #[]) ∧ Own w0 w' p n M D := by
  obtain ⟨F, h1, h2, h3⟩ := h
  exact (write_none p n M D F w i s h1 hi).mono fun e w' h => ⟨h.1, Own.step h.2 h2 h3⟩

theorem o_send_none (w0 : World) (p n : Nat) (M : Nat → Cn) (D : List Nat) (w : World) (i : Int) (s : ByteArray) (h : Own w0 w p n M D) (hi : i < 0 ∨ (n : Int) ≤ i) :
    Calls Try.prog 9 #[.pointer (some ⟨p, 0, none⟩), .int .i64 i, .string s] w fun e w' => e = .returned (.bool false) ∧ Own w0 w' p n M D := by
  obtain ⟨F, h1, h2, h3⟩ := h
  exact (send_none p n M D F w i s h1 hi).mono fun e w' h => ⟨h.1, Own.step h.2 h2 h3⟩

theorem o_read_none (w0 : World) (p n : Nat) (M : Nat → Cn) (D : List Nat) (w : World) (i : Int) (h : Own w0 w p n M D) (hi : i < 0 ∨ (n : Int) ≤ i) :
    Calls Try.prog 11 #[.pointer (some ⟨p, 0, none⟩), .int .i64 i] w fun e w' => e = .returned (.tuple #[.string ⟨#[]⟩, .bool false]) ∧ Own w0 w' p n M D := by
  obtain ⟨F, h1, h2, h3⟩ := h
  exact (read_none p n M D F w i h1 hi).mono fun e w' h => ⟨h.1, Own.step h.2 h2 h3⟩

theorem o_shut (w0 : World) (p n : Nat) (M : Nat → Cn) (D : List Nat) (w : World) (i : Nat) (h : Own w0 w p n M D) (hi : i < n) :
    Calls Try.prog 17 #[.pointer (some ⟨p, 0, none⟩), .int .i64 i] w fun e w' => e = .returned (.bool (M i).open3) ∧ Own w0 w' p n (shutTo M i (M i)) D := by
  obtain ⟨F, h1, h2, h3⟩ := h
  exact (shut_some p n M D F w i h1 hi).mono fun e w' h => ⟨h.1, Own.step h.2 h2 h3⟩

theorem o_reset (w0 : World) (p n : Nat) (M : Nat → Cn) (D : List Nat) (w : World) (i : Nat) (h : Own w0 w p n M D) (hi : i < n) :
    Calls Try.prog 16 #[.pointer (some ⟨p, 0, none⟩), .int .i64 i] w fun e w' => e = .returned (.bool (M i).open2) ∧ Own w0 w' p n (resetTo M i (M i)) D := by
  obtain ⟨F, h1, h2, h3⟩ := h
  exact (reset_some p n M D F w i h1 hi).mono fun e w' h => ⟨h.1, Own.step h.2 h2 h3⟩

theorem o_close (w0 : World) (p n : Nat) (M : Nat → Cn) (D : List Nat) (w : World) (i : Nat) (h : Own w0 w p n M D) (hi : i < n) :
    Calls Try.prog 15 #[.pointer (some ⟨p, 0, none⟩), .int .i64 i] w fun e w' => e = .returned (.tuple #[]) ∧ Own w0 w' p n (closeTo M i (M i)) D := by
  obtain ⟨F, h1, h2, h3⟩ := h
  exact (close_some p n M D F w i h1 hi).mono fun e w' h => ⟨h.1, Own.step h.2 h2 h3⟩

theorem o_write (w0 : World) (p n : Nat) (M : Nat → Cn) (D : List Nat) (w : World) (i : Nat) (s : ByteArray) (h : Own w0 w p n M D) (hi : i < n) (hs : (M i).written.size + s.size ≤ 1000000) :
    Calls Try.prog 14 #[.pointer (some ⟨p, 0, none⟩), .int .i64 i, .string s] w fun e w' => e = .returned (.tuple #[]) ∧ Own w0 w' p n (writeTo M i (M i) s) D := by
  obtain ⟨F, h1, h2, h3⟩ := h
  exact (write_some p n M D F w i s h1 hi hs).mono fun e w' h => ⟨h.1, Own.step h.2 h2 h3⟩

theorem o_send (w0 : World) (p n : Nat) (M : Nat → Cn) (D : List Nat) (w : World) (i : Nat) (s : ByteArray) (h : Own w0 w p n M D) (hi : i < n) (hs : (M i).came + s.size ≤ 1000000) (hl : (M i).inn.length ≤ 1000000) :
    Calls Try.prog 9 #[.pointer (some ⟨p, 0, none⟩), .int .i64 i, .string s] w fun e w' => e = .returned (.bool (sendOk (M i) s)) ∧ Own w0 w' p n (sendTo M i (M i) s) D := by
  obtain ⟨F, h1, h2, h3⟩ := h
  exact (send_some p n M D F w i s h1 hi hs hl).mono fun e w' h => ⟨h.1, Own.step h.2 h2 h3⟩

theorem o_read_empty (w0 : World) (p n : Nat) (M : Nat → Cn) (D : List Nat) (w : World) (i : Nat) (h : Own w0 w p n M D) (hi : i < n) (he : (M i).inn = []) :
    Calls Try.prog 11 #[.pointer (some ⟨p, 0, none⟩), .int .i64 i] w fun e w' => e = .returned (.tuple #[.string ⟨#[]⟩, .bool false]) ∧ Own w0 w' p n M D := by
  obtain ⟨F, h1, h2, h3⟩ := h
  exact (read_empty p n M D F w i h1 hi he).mono fun e w' h => ⟨h.1, Own.step h.2 h2 h3⟩

theorem o_read (w0 : World) (p n : Nat) (M : Nat → Cn) (D : List Nat) (w : World) (i : Nat) (s : ByteArray) (r : List ByteArray) (h : Own w0 w p n M D) (hi : i < n) (he : (M i).inn = s :: r) (hl : (M i).inn.length ≤ 1000000) :
    Calls Try.prog 11 #[.pointer (some ⟨p, 0, none⟩), .int .i64 i] w fun e w' => e = .returned (.tuple #[.string s, .bool true]) ∧ Own w0 w' p n (readTo M i (M i) r) D := by
  obtain ⟨F, h1, h2, h3⟩ := h
  exact (read_one p n M D F w i s r h1 hi he hl).mono fun e w' h => ⟨h.1, Own.step h.2 h2 h3⟩

theorem o_accept_none (w0 : World) (p n : Nat) (M : Nat → Cn) (w : World) (h : Own w0 w p n M []) :
    Calls Try.prog 10 #[.pointer (some ⟨p, 0, none⟩)] w fun e w' => e = .returned (.tuple #[.int .i64 0, .bool false]) ∧ Own w0 w' p n M [] := by
  obtain ⟨F, h1, h2, h3⟩ := h
  exact (accept_none p n M F w h1).mono fun e w' h => ⟨h.1, Own.step h.2 h2 h3⟩

theorem o_accept (w0 : World) (p n d : Nat) (M : Nat → Cn) (D : List Nat) (w : World) (h : Own w0 w p n M (d :: D)) (hl : D.length ≤ 1000000) :
    Calls Try.prog 10 #[.pointer (some ⟨p, 0, none⟩)] w fun e w' => e = .returned (.tuple #[.int .i64 d, .bool true]) ∧ Own w0 w' p n (takeTo M d (M d)) D := by
  obtain ⟨F, h1, h2, h3⟩ := h
  exact (accept_one p n d M D F w h1 hl).mono fun e w' h => ⟨h.1, Own.step h.2 h2 h3⟩

theorem o_len (w0 : World) (p n : Nat) (M : Nat → Cn) (D : List Nat) (w : World) (h : Own w0 w p n M D) :
    Calls Try.prog 22 #[.pointer (some ⟨p, 0, none⟩)] w fun e w' => e = .returned (.int .i64 n) ∧ Own w0 w' p n M D := by
  have hq := h
  obtain ⟨F, h1, h2, h3⟩ := h
  exact (len_ok p n M D F w h1).mono fun e w' ⟨h, k, hk⟩ => ⟨h, by rw [hk]; exact hq.quiet k⟩

theorem o_dials (w0 : World) (p n : Nat) (M : Nat → Cn) (D : List Nat) (w : World) (h : Own w0 w p n M D) :
    Calls Try.prog 13 #[.pointer (some ⟨p, 0, none⟩)] w fun e w' => e = .returned (.int .i64 D.length) ∧ Own w0 w' p n M D := by
  have hq := h
  obtain ⟨F, h1, h2, h3⟩ := h
  exact (dials_ok p n M D F w h1).mono fun e w' ⟨h, k, hk⟩ => ⟨h, by rw [hk]; exact hq.quiet k⟩

theorem o_came_none (w0 : World) (p n : Nat) (M : Nat → Cn) (D : List Nat) (w : World) (i : Int) (h : Own w0 w p n M D) (hi : i < 0 ∨ (n : Int) ≤ i) :
    Calls Try.prog 12 #[.pointer (some ⟨p, 0, none⟩), .int .i64 i] w fun e w' => e = .returned (.int .i64 0) ∧ Own w0 w' p n M D := by
  have hq := h
  obtain ⟨F, h1, h2, h3⟩ := h
  exact (came_none p n M D F w i h1 hi).mono fun e w' ⟨h, k, hk⟩ => ⟨h, by rw [hk]; exact hq.quiet k⟩

theorem o_came (w0 : World) (p n : Nat) (M : Nat → Cn) (D : List Nat) (w : World) (i : Nat) (h : Own w0 w p n M D) (hi : i < n) :
    Calls Try.prog 12 #[.pointer (some ⟨p, 0, none⟩), .int .i64 i] w fun e w' => e = .returned (.int .i64 (M i).came) ∧ Own w0 w' p n M D := by
  have hq := h
  obtain ⟨F, h1, h2, h3⟩ := h
  exact (came_some p n M D F w i h1 hi).mono fun e w' ⟨h, k, hk⟩ => ⟨h, by rw [hk]; exact hq.quiet k⟩

theorem o_gone_none (w0 : World) (p n : Nat) (M : Nat → Cn) (D : List Nat) (w : World) (i : Int) (h : Own w0 w p n M D) (hi : i < 0 ∨ (n : Int) ≤ i) :
    Calls Try.prog 20 #[.pointer (some ⟨p, 0, none⟩), .int .i64 i] w fun e w' => e = .returned (.bool false) ∧ Own w0 w' p n M D := by
  have hq := h
  obtain ⟨F, h1, h2, h3⟩ := h
  exact (gone_none p n M D F w i h1 hi).mono fun e w' ⟨h, k, hk⟩ => ⟨h, by rw [hk]; exact hq.quiet k⟩

theorem o_gone (w0 : World) (p n : Nat) (M : Nat → Cn) (D : List Nat) (w : World) (i : Nat) (h : Own w0 w p n M D) (hi : i < n) :
    Calls Try.prog 20 #[.pointer (some ⟨p, 0, none⟩), .int .i64 i] w fun e w' => e = .returned (.bool (M i).reset) ∧ Own w0 w' p n M D := by
  have hq := h
  obtain ⟨F, h1, h2, h3⟩ := h
  exact (gone_some p n M D F w i h1 hi).mono fun e w' ⟨h, k, hk⟩ => ⟨h, by rw [hk]; exact hq.quiet k⟩

theorem o_closed_none (w0 : World) (p n : Nat) (M : Nat → Cn) (D : List Nat) (w : World) (i : Int) (h : Own w0 w p n M D) (hi : i < 0 ∨ (n : Int) ≤ i) :
    Calls Try.prog 19 #[.pointer (some ⟨p, 0, none⟩), .int .i64 i] w fun e w' => e = .returned (.bool false) ∧ Own w0 w' p n M D := by
  have hq := h
  obtain ⟨F, h1, h2, h3⟩ := h
  exact (closed_none p n M D F w i h1 hi).mono fun e w' ⟨h, k, hk⟩ => ⟨h, by rw [hk]; exact hq.quiet k⟩

theorem o_closed (w0 : World) (p n : Nat) (M : Nat → Cn) (D : List Nat) (w : World) (i : Nat) (h : Own w0 w p n M D) (hi : i < n) :
    Calls Try.prog 19 #[.pointer (some ⟨p, 0, none⟩), .int .i64 i] w fun e w' => e = .returned (.bool (M i).closed) ∧ Own w0 w' p n M D := by
  have hq := h
  obtain ⟨F, h1, h2, h3⟩ := h
  exact (closed_some p n M D F w i h1 hi).mono fun e w' ⟨h, k, hk⟩ => ⟨h, by rw [hk]; exact hq.quiet k⟩

theorem o_written_none (w0 : World) (p n : Nat) (M : Nat → Cn) (D : List Nat) (w : World) (i : Int) (h : Own w0 w p n M D) (hi : i < 0 ∨ (n : Int) ≤ i) :
    Calls Try.prog 18 #[.pointer (some ⟨p, 0, none⟩), .int .i64 i] w fun e w' => e = .returned (.string ⟨#[]⟩) ∧ Own w0 w' p n M D := by
  have hq := h
  obtain ⟨F, h1, h2, h3⟩ := h
  exact (written_none p n M D F w i h1 hi).mono fun e w' ⟨h, k, hk⟩ => ⟨h, by rw [hk]; exact hq.quiet k⟩

theorem o_written (w0 : World) (p n : Nat) (M : Nat → Cn) (D : List Nat) (w : World) (i : Nat) (h : Own w0 w p n M D) (hi : i < n) :
    Calls Try.prog 18 #[.pointer (some ⟨p, 0, none⟩), .int .i64 i] w fun e w' => e = .returned (.string (M i).written) ∧ Own w0 w' p n M D := by
  have hq := h
  obtain ⟨F, h1, h2, h3⟩ := h
  exact (written_some p n M D F w i h1 hi).mono fun e w' ⟨h, k, hk⟩ => ⟨h, by rw [hk]; exact hq.quiet k⟩

theorem o_ready_none (w0 : World) (p n : Nat) (M : Nat → Cn) (D : List Nat) (w : World) (i : Int) (h : Own w0 w p n M D) (hi : i < 0 ∨ (n : Int) ≤ i) :
    Calls Try.prog 21 #[.pointer (some ⟨p, 0, none⟩), .int .i64 i] w fun e w' => e = .returned (.bool false) ∧ Own w0 w' p n M D := by
  have hq := h
  obtain ⟨F, h1, h2, h3⟩ := h
  exact (ready_none p n M D F w i h1 hi).mono fun e w' ⟨h, k, hk⟩ => ⟨h, by rw [hk]; exact hq.quiet k⟩

theorem o_ready (w0 : World) (p n : Nat) (M : Nat → Cn) (D : List Nat) (w : World) (i : Nat) (h : Own w0 w p n M D) (hi : i < n) :
    Calls Try.prog 21 #[.pointer (some ⟨p, 0, none⟩), .int .i64 i] w fun e w' => e = .returned (.bool (M i).ready) ∧ Own w0 w' p n M D := by
  have hq := h
  obtain ⟨F, h1, h2, h3⟩ := h
  exact (ready_some p n M D F w i h1 hi).mono fun e w' ⟨h, k, hk⟩ => ⟨h, by rw [hk]; exact hq.quiet k⟩
end Go.Proofs.Ytpjkckhgkaefdaa
