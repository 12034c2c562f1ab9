/- NetOrders: clients are accepted in the order in which they came; bytes are read in the order in which they were sent. -/
import Derived.Test.YtpjkckhgkaefdaaN9
import Derived.Test.YtpjkckhgkaefdaaFlat
import Derived.Deep.LoopGhost
namespace Go.Proofs.Ytpjkckhgkaefdaa
set_option linter.unusedSimpArgs false
set_option linter.unusedVariables false
set_option linter.unnecessarySimpa false
open Go.RowKit BigFrame

/-- What was sent to connection j of k, out of the first i texts. -/
def snt (S : Nat → ByteArray) (k j : Nat) : Nat → List ByteArray
  | 0 => []
  | i + 1 => if i % k = j ∧ (S i).toList.isEmpty = false then snt S k j i ++ [S i] else snt S k j i
def cam (S : Nat → ByteArray) (k j : Nat) : Nat → Nat
  | 0 => 0
  | i + 1 => if i % k = j then cam S k j i + (S i).size else cam S k j i
def tot (S : Nat → ByteArray) : Nat → Nat
  | 0 => 0
  | i + 1 => tot S i + (S i).size
/-- What should be read. -/
def wnt (S : Nat → ByteArray) (k j : Nat) : Nat → ByteArray
  | 0 => ⟨#[]⟩
  | i + 1 => if i % k = j then wnt S k j i ++ S i else wnt S k j i
def cat : List ByteArray → ByteArray
  | [] => ⟨#[]⟩
  | s :: r => s ++ cat r
def hdB : List ByteArray → ByteArray
  | [] => ⟨#[]⟩
  | x :: _ => x
def hasB : List ByteArray → Bool
  | [] => false
  | _ :: _ => true
theorem hdB_eq (l : List ByteArray) : l.headD ⟨#[]⟩ = hdB l := by cases l <;> rfl
theorem hasB_eq (l : List ByteArray) : (!l.isEmpty) = hasB l := by cases l <;> rfl
def Ms (S : Nat → ByteArray) (k i : Nat) : Nat → Cn := fun j => { Cn.new with inn := snt S k j i, came := cam S k j i }

theorem app_empty (s : ByteArray) : s ++ ⟨#[]⟩ = s := by apply ByteArray.ext; simp
theorem app_assoc (a b c : ByteArray) : a ++ b ++ c = a ++ (b ++ c) := by apply ByteArray.ext; simp
theorem isEmpty_eq {s : ByteArray} (h : s.toList.isEmpty = true) : s = ⟨#[]⟩ := by
  apply ByteArray.ext
  have : s.toList = [] := by simpa using h
  have h2 : s.data.toList = [] := by rw [← ByteArray.toList_eq]; exact this
  apply Array.ext'
  simpa using h2
theorem isEmpty_size {s : ByteArray} (h : s.toList.isEmpty = true) : s.size = 0 := by rw [isEmpty_eq h]; rfl
theorem cat_snoc (l : List ByteArray) (s : ByteArray) : cat (l ++ [s]) = cat l ++ s := by
  induction l with
  | nil => simp [cat, app_empty, empty_app]
  | cons x l ih => simp [cat, ih, app_assoc]
theorem cat_snt (S : Nat → ByteArray) (k j i : Nat) : cat (snt S k j i) = wnt S k j i := by
  induction i with
  | zero => rfl
  | succ i ih =>
    unfold snt wnt
    by_cases h : i % k = j
    · rw [if_pos h]
      cases he : (S i).toList.isEmpty
      · rw [if_pos ⟨h, rfl⟩, cat_snoc, ih]
      · rw [if_neg (by simp), ih, isEmpty_eq he, app_empty]
    · rw [if_neg (fun e => h e.1), if_neg h, ih]
theorem tot_le (S : Nat → ByteArray) (i : Nat) (h : ∀ m, m < i → (S m).size ≤ 100) : tot S i ≤ 100 * i := by
  induction i with
  | zero => simp [tot]
  | succ i ih => have := ih fun m hm => h m (by omega); have := h i (by omega); simp only [tot]; omega
theorem cam_le (S : Nat → ByteArray) (k j i : Nat) : cam S k j i ≤ tot S i := by
  induction i with
  | zero => simp [tot, cam]
  | succ i ih => simp only [tot, cam]; split <;> omega
theorem wnt_size (S : Nat → ByteArray) (k j i : Nat) : (wnt S k j i).size = cam S k j i := by
  induction i with
  | zero => rfl
  | succ i ih =>
    show (if i % k = j then wnt S k j i ++ S i else wnt S k j i).size = if i % k = j then cam S k j i + (S i).size else cam S k j i
    split
    · rw [ByteArray.size_append, ih]
    · exact ih
theorem snt_len (S : Nat → ByteArray) (k j i : Nat) : (snt S k j i).length ≤ i := by
  induction i with
  | zero => simp [snt]
  | succ i ih =>
    show (if i % k = j ∧ (S i).toList.isEmpty = false then snt S k j i ++ [S i] else snt S k j i).length ≤ i + 1
    split
    · simp; omega
    · omega
/-- What came to the first n of k connections. -/
def camS (S : Nat → ByteArray) (k i : Nat) : Nat → Nat
  | 0 => 0
  | n + 1 => camS S k i n + cam S k n i
theorem camS_zero (S : Nat → ByteArray) (k n : Nat) : camS S k 0 n = 0 := by
  induction n with
  | zero => rfl
  | succ n ih => show camS S k 0 n + cam S k n 0 = 0; rw [ih]; rfl
theorem camS_succ (S : Nat → ByteArray) (k i n : Nat) : camS S k (i + 1) n = camS S k i n + if i % k < n then (S i).size else 0 := by
  induction n with
  | zero => simp [camS]
  | succ n ih =>
    have e : cam S k n (i + 1) = if i % k = n then cam S k n i + (S i).size else cam S k n i := rfl
    simp only [camS, ih, e]
    by_cases h : i % k = n
    · rw [if_pos h, if_neg (by omega), if_pos (by omega)]; omega
    · rw [if_neg h]
      by_cases h2 : i % k < n
      · rw [if_pos h2, if_pos (by omega)]; omega
      · rw [if_neg h2, if_neg (by omega)]; omega
theorem camS_tot (S : Nat → ByteArray) (k i : Nat) (hk : 0 < k) : camS S k i k = tot S i := by
  induction i with
  | zero => simp [camS_zero, tot]
  | succ i ih => rw [camS_succ, ih, if_pos (Nat.mod_lt _ hk)]; rfl
theorem camS_mono (S : Nat → ByteArray) (k i n d : Nat) : camS S k i n ≤ camS S k i (n + d) := by
  induction d with
  | zero => exact Nat.le_refl _
  | succ d ih => rw [← Nat.add_assoc]; simp only [camS]; omega
theorem camS_le (S : Nat → ByteArray) (k i n : Nat) (h : n ≤ k) (hk : 0 < k) : camS S k i n ≤ tot S i := by
  rw [← camS_tot S k i hk]
  have := camS_mono S k i n (k - n)
  rwa [Nat.add_sub_cancel' h] at this

theorem Ms_send (S : Nat → ByteArray) (k i : Nat) (hk : 0 < k) : apM (Ms S k i) k ((i % k : Nat) : Int) (Cn.send (S i)) = Ms S k (i + 1) := by
  have hlt := Nat.mod_lt i hk
  funext j
  by_cases h : j = i % k
  · subst h
    rw [apM_self _ hlt]
    cases he : (S i).toList.isEmpty
    · simp [Ms, Cn.send, sendOk, Cn.open3, Cn.new, he, snt, cam]
    · simp [Ms, Cn.send, sendOk, Cn.open3, Cn.new, he, snt, cam, isEmpty_size he]
  · rw [apM_ne _ (by omega)]
    simp [Ms, snt, cam, Ne.symm h]

/-- The connections that are not taken yet are as they were. -/
def From (S : Nat → ByteArray) (k i len : Nat) (M : Nat → Cn) : Prop := ∀ j, i ≤ j → j < k → (M j).inn = snt S k j len ∧ (M j).came = cam S k j len

set_option maxRecDepth 100000 in
set_option maxHeartbeats 2000000 in
theorem orders_walk (a : Option Addr) (len cap : Nat) (kk : Int) (w : World) (hz : Leaf.ok w (.sl [.str]) (.slice a len cap)) :
    Calls Try.prog 3 #[.slice a len cap, .int .i64 kk] w fun e w' => e = .returned (.bool true) ∧ Upd [] w w' := by
  by_cases hl : 40 < len
  · go_enter Try.func3, Try.ntmps3
    go_wp2_with fail
    refine (fit_ok w).mono ?_
    rintro e w1 ⟨rfl, u1⟩
    go_wp2_with fail
    go_ret
    exact ⟨rfl, u1⟩
  have hl : len ≤ 40 := by omega
  obtain ⟨S, hS⟩ := Leaf.strs hz
  have HS := Hd.mk hS
  clear hS hz
  obtain ⟨k, hk⟩ : ∃ k : Nat, kk % 8 + 1 = k := ⟨(kk % 8 + 1).toNat, by omega⟩
  have k1 : 1 ≤ k := by omega
  have k2 : k ≤ 8 := by omega
  go_enter Try.func3, Try.ntmps3
  go_wp2_with fail
  refine (fit_ok w).mono ?_
  rintro e w1 ⟨rfl, u1⟩
  go_wp2_with fail
  have q0 := Own.new u1
  generalize w1.heap.size = p at q0 ⊢
  clear hk
  go_loopg [30] k (fun g i wr => ∃ n : Nat, n + g = k ∧ i = .int .i64 n ∧ Own w wr p n (fun _ => Cn.new) (List.range n))
  case atStart => exact ⟨0, by omega, rfl, q0⟩
  case round =>
    obtain ⟨n, hn, rfl, q⟩ := hrel
    clear q0 u1
    by_cases hlt : n < k
    · go_wp2_with fail
      refine (o_dial w p n _ _ _ q (by omega) (by simp; omega)).mono ?_
      rintro e w2 ⟨rfl, q1⟩
      go_wp2_with fail
      go_roundg (gk - 1)
      case measure => omega
      case rel => exact ⟨n + 1, by omega, by simp, by
        have e : dialTo (fun _ => Cn.new) n = fun _ => Cn.new := by funext j; unfold dialTo upM; split <;> rfl
        rw [e] at q1
        rw [List.range_succ]
        exact q1⟩
    · obtain rfl : n = k := by omega
      go_wp2_with fail
      have q1 : Own w wr p n (Ms S n 0) (List.range n) := q
      clear q hlt hn
      go_loopg [6, 36] len (fun g t i wr => ∃ m : Nat, m + g = len ∧ t = .int .i64 (tot S m) ∧ i = .int .i64 m ∧ (∀ j, j < m → (S j).size ≤ 100) ∧ Own w wr p n (Ms S n m) (List.range n))
      case atStart => exact ⟨0, by omega, rfl, rfl, by omega, q1⟩
      case round =>
        obtain ⟨m, hm, rfl, rfl, hle, q⟩ := hrel
        clear q1
        have ht := tot_le S m hle
        by_cases hlt : m < len
        · obtain ⟨b, off, rfl, hb, hc⟩ := HS.out (by omega)
          have hck := hc m hlt
          clear hc
          have hcr : wr.cell? ⟨b, off + m, none⟩ = some (.string (S m)) := (q.out.cell (p := ⟨b, off + m, none⟩) hb (by simp)).trans hck
          clear hck
          by_cases hs : 100 < (S m).size
          · go_wp2_with fail
            go_ret
            exact ⟨rfl, q.out⟩
          have hs : (S m).size ≤ 100 := by omega
          have hle' : ∀ j, j < m + 1 → (S j).size ≤ 100 := fun j hj => by
            by_cases e : j = m
            · subst e; exact hs
            · exact hle j (by omega)
          have HL := Hd.mk hle'
          have c1 := cam_le S n (m % n) m
          have c2 := snt_len S n (m % n) m
          clear hle hle'
          have hmod : m % n < n := Nat.mod_lt m (by omega)
          cases he : (S m).toList.isEmpty
          all_goals
            have hmi : (m : Int) % n = ((m % n : Nat) : Int) := by omega
            have HM := Hd.mk hmi
            clear hmi
            go_wp2_with fail
            refine (t_send w p n _ _ _ ((m : Int) % n) (S m) (!(S m).toList.isEmpty) q (by rw [HM.out, nth_in hmod]; simp [Ms]; omega) (by rw [HM.out, nth_in hmod]; simp [Ms]; omega) (by rw [HM.out, nth_in hmod, inn_in hmod]; simp [Ms, sendOk, Cn.open3, Cn.new])).mono ?_
            rintro e w2 ⟨rfl, q1⟩
            rw [HM.out, Ms_send S n m (by omega)] at q1
            clear q hcr
            rw [he]
            go_wp2_with fail
            go_roundg (gk - 1)
            case measure => omega
            case rel => exact ⟨m + 1, by omega, by simp [tot], by simp, HL.out, q1⟩
        · obtain rfl : m = len := by omega
          have HA := Hd.mk hle
          have fr : From S n 0 m (Ms S n m) := fun j _ _ => ⟨rfl, rfl⟩
          generalize Ms S n m = M at q fr
          clear hle hlt hm
          rw [List.range_eq_range'] at q
          go_wp2_with fail
          go_loopg [9, 58] n (fun g c i wr => ∃ (j cc : Nat) (M : Nat → Cn), j + g = n ∧ c = .int .i64 cc ∧ i = .int .i64 j ∧ Hd (cc = camS S n m j) ∧ From S n j m M ∧ Own w wr p n M (List.range' j (n - j)))
          case atStart => exact ⟨0, 0, M, by omega, rfl, rfl, Hd.mk rfl, fr, q⟩
          case round =>
            clear q fr M
            obtain ⟨j, cc, M, hj, rfl, rfl, HC, fr, q⟩ := hrel
            by_cases hlt : j < n
            · have e : List.range' j (n - j) = j :: List.range' (j + 1) (n - (j + 1)) := by
                rw [show n - j = (n - (j + 1)) + 1 by omega]; rfl
              rw [e] at q
              clear e
              go_wp2_with fail
              refine (o_accept w p n j _ _ _ q (by simp; omega)).mono ?_
              rintro e w2 ⟨rfl, q1⟩
              have fr1 : From S n j m (takeTo M j (M j)) := fun i hi hn => by
                have := fr i hi hn
                unfold takeTo upM
                split
                · rename_i e; subst e; exact this
                · exact this
              generalize takeTo M j (M j) = M1 at q1 fr1
              clear q fr
              go_wp2_with fail
              go_loop [13, 74] (fun s i => ∃ t : Nat, t ≤ m ∧ s = .string (wnt S n j t) ∧ i = .int .i64 t) (fun _ i => m - (intOf i).toNat)
              case atStart => exact ⟨0, by omega, rfl, rfl⟩
              case round =>
                obtain ⟨t, ht', rfl, rfl⟩ := hrel
                by_cases hlt' : t < m
                · obtain ⟨b, off, rfl, hb, hc⟩ := HS.out (by omega)
                  have hck := hc t hlt'
                  clear hc
                  have hcr : w2.cell? ⟨b, off + t, none⟩ = some (.string (S t)) := (q1.out.cell (p := ⟨b, off + t, none⟩) hb (by simp)).trans hck
                  clear hck
                  have hsz : (wnt S n j t).size + (S t).size ≤ 10000 := by
                    rw [wnt_size]
                    have := cam_le S n j t
                    have := tot_le S t (fun i hi => HA.out i (by omega))
                    have := HA.out t hlt'
                    omega
                  by_cases hm : t % n = j
                  · have hd : ((t : Int) % n == j) = true := by simp; omega
                    have e : wnt S n j (t + 1) = wnt S n j t ++ S t := by rw [wnt, if_pos hm]
                    have E := Hd.mk e
                    clear hm e
                    go_wp2_with fail
                    go_round
                    case measure => simp [intOf]; omega
                    case rel => exact ⟨t + 1, by omega, by rw [E.out], by simp⟩
                  · have hd : ((t : Int) % n == j) = false := by simp; omega
                    have e : wnt S n j (t + 1) = wnt S n j t := by rw [wnt, if_neg hm]
                    have E := Hd.mk e
                    clear hm e
                    go_wp2_with fail
                    go_round
                    case measure => simp [intOf]; omega
                    case rel => exact ⟨t + 1, by omega, by rw [E.out], by simp⟩
                · obtain rfl : m = t := by omega
                  clear ht' hlt'
                  have hin := (fr1 j (Nat.le_refl _) hlt).1
                  have hcm := (fr1 j (Nat.le_refl _) hlt).2
                  have fr2 : From S n (j + 1) m (apM M1 n j Cn.mread) := fun i h1 h2 => by rw [apM_ne _ (by omega)]; exact fr1 i (by omega) h2
                  have hin2 : (apM M1 n j Cn.mread j).inn = (snt S n j m).tail := by rw [apM_self _ hlt, ← hin]; rfl
                  have hcm2 : (apM M1 n j Cn.mread j).came = cam S n j m := by rw [apM_self _ hlt, ← hcm]; rfl
                  have hcat := cat_snt S n j m
                  have hlen := snt_len S n j m
                  have hcs := camS_le S n m (j + 1) (by omega) (by omega)
                  have hcs2 : cc + cam S n j m ≤ 10000 := by
                    have h1 := HC.out
                    have h2 : camS S n m (j + 1) = camS S n m j + cam S n j m := rfl
                    omega
                  have HW : Hd ((wnt S n j m).size ≤ 10000) := Hd.mk (by rw [wnt_size]; omega)
                  have HCS : Hd (cc + cam S n j m = camS S n m (j + 1)) := Hd.mk (by rw [HC.out]; rfl)
                  clear hcs HC
                  generalize snt S n j m = l at hin hin2 hcat hlen
                  go_wp2_with fail
                  refine (t_read w p n M1 _ _ (j : Int) (hdB l) (hasB l) q1 (by rw [nth_in hlt, hin]; omega) (by rw [nth_in hlt, hin, hdB_eq]) (by rw [nth_in hlt, hin, hasB_eq])).mono ?_
                  rintro e w3 ⟨rfl, q2⟩
                  generalize apM M1 n j Cn.mread = M2 at fr2 hin2 hcm2 q2
                  have Z := Hd.mk (And.intro hin2 (And.intro hcm2 hcat))
                  clear hin hcm hin2 hcm2 hcat q1 fr1
                  go_wp2_with fail
                  go_loopg [16, 17, 18] l.length (fun g s16 s17 s18 wr => ∃ (G : ByteArray) (l : List ByteArray) (M : Nat → Cn), s16 = .string G ∧ s17 = .string (hdB l) ∧ s18 = .bool (hasB l) ∧ l.length = g ∧ l.length ≤ m ∧ Hd ((M j).inn = l.tail ∧ (M j).came = cam S n j m ∧ G ++ cat l = wnt S n j m) ∧ From S n (j + 1) m M ∧ Own w wr p n M (List.range' (j + 1) (n - (j + 1))))
                  case atStart => exact ⟨⟨#[]⟩, l, M2, rfl, rfl, rfl, rfl, hlen, Hd.mk ⟨Z.out.1, Z.out.2.1, by rw [empty_app]; exact Z.out.2.2⟩, fr2, q2⟩
                  case round =>
                    clear q2 fr2 Z hlen
                    obtain ⟨G, l, M, rfl, rfl, rfl, hg, hlen, Z, fr, q⟩ := hrel
                    have HG := Hd.mk hg
                    clear hg
                    cases l with
                    | nil =>
                      rw [show hdB [] = ⟨#[]⟩ from rfl, show hasB [] = false from rfl]
                      obtain rfl : wnt S n j m = G := by have := Z.out.2.2; rw [cat, app_empty] at this; exact this.symm
                      have hc0 : (nth M n (j : Int)).came = cam S n j m := by rw [nth_in hlt]; exact Z.out.2.1
                      have C0 := Hd.mk (q.q_came j (cam S n j m) (by rw [hc0]))
                      clear hc0 Z
                      go_wp2_with fail
                      refine (C0.out 0).mono ?_
                      rintro e w4 ⟨rfl, k4, rfl⟩
                      have q := q.quiet k4
                      clear C0
                      go_wp2_with fail
                      go_roundg (n - (j + 1))
                      case measure => omega
                      case rel => exact ⟨j + 1, cc + cam S n j m, M, by omega, by simp, by simp, HCS, fr, q⟩
                    | cons x r =>
                      rw [show hdB (x :: r) = x from rfl, show hasB (x :: r) = true from rfl]
                      have hsz : G.size + x.size ≤ 10000 := by
                        have h1 := Z.out.2.2
                        have h2 := HW.out
                        rw [← h1, cat] at h2
                        simp only [ByteArray.size_append] at h2
                        omega
                      have hin := Z.out.1
                      simp only [List.tail_cons, List.length_cons] at hin hlen
                      have hin2 : (apM M n j Cn.mread j).inn = r.tail := by rw [apM_self _ hlt, ← hin]; rfl
                      have hcm2 : (apM M n j Cn.mread j).came = cam S n j m := by rw [apM_self _ hlt, ← Z.out.2.1]; rfl
                      have fr2 : From S n (j + 1) m (apM M n j Cn.mread) := fun i h1 h2 => by rw [apM_ne _ (by omega)]; exact fr i (by omega) h2
                      have HI := Hd.mk hin
                      have Y := Hd.mk (And.intro hin2 hcm2)
                      clear hin hin2 hcm2
                      go_wp2_with fail
                      refine (t_read w p n M _ _ (j : Int) (hdB r) (hasB r) q (by rw [nth_in hlt, HI.out]; omega) (by rw [nth_in hlt, HI.out, hdB_eq]) (by rw [nth_in hlt, HI.out, hasB_eq])).mono ?_
                      rintro e w3 ⟨rfl, q2⟩
                      generalize apM M n j Cn.mread = M2 at fr2 Y q2
                      go_wp2_with fail
                      go_roundg (gk - 1)
                      case measure => have := HG.out; simp at this; omega
                      case rel => exact ⟨G ++ x, r, M2, rfl, rfl, rfl, by have := HG.out; simp at this; omega, by omega, Hd.mk ⟨Y.out.1, Y.out.2, by rw [app_assoc]; exact Z.out.2.2⟩, fr2, q2⟩
            · obtain rfl : n = j := by omega
              obtain rfl : tot S m = cc := by rw [HC.out, camS_tot _ _ _ (by omega)]
              rw [show n - n = 0 by omega] at q
              clear HC fr hlt hj
              go_wp2_with fail
              refine (o_accept_none w p n _ _ q).mono ?_
              rintro e w2 ⟨rfl, q1⟩
              have C0 := Hd.mk (q1.q_dials 0 (by simp))
              have U0 := Hd.mk q1.out
              clear q q1
              go_wp2_with fail
              refine (C0.out 0).mono ?_
              rintro e w4 ⟨rfl, k4, rfl⟩
              go_wp2_with fail
              go_ret
              exact ⟨rfl, U0.out.drewN _⟩

theorem orders_row (a : Option Addr) (len cap : Nat) (k : Int) (w : World) (hz : Leaf.ok w (.sl [.str]) (.slice a len cap)) (_ : (Lit.int .i64 k).wf = true) : Calls Try.prog 3 #[.slice a len cap, .int .i64 k] w fun e w' => e = .returned (.bool true) ∧ Below w.heap.size w w' :=
  (orders_walk a len cap k w hz).mono fun _ _ h => ⟨h.1, h.2.nil_below⟩
end Go.Proofs.Ytpjkckhgkaefdaa
