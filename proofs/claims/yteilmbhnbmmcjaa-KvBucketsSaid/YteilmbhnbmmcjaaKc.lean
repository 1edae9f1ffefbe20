/- Helper: keys and what they have, as bytes; walked. No condition. -/
import Derived.Test.YteilmbhnbmmcjaaKb
import Derived.Test.YteilmbhnbmmcjaaLg
import Derived.Test.YteilmbhnbmmcjaaLaterCall
namespace Go.Proofs.Yteilmbhnbmmcjaa.B
open Go.RowKit Go.Proofs.YteilmbhnbmmcjaaW.PrintWords Go.Proofs.Yteilmbhnbmmcjaa.Later
set_option maxRecDepth 100000
set_option maxHeartbeats 1600000
/-- A key, and what it has. -/
structure Pr where
  k : List UInt8
  v : List UInt8
instance : Inhabited Pr := ⟨⟨[], []⟩⟩
def Pr.small (x : Pr) : Prop := x.k.length ≤ 1000 ∧ x.v.length ≤ 1000
def prK : Kd Pr := Kd.iso (Kd.pair Kd.string Kd.string) (fun x => (bs x.k, bs x.v))
theorem prK_open {w : World} {x : Pr} {cs : List Value} (h : prK.K w x cs) : cs = [.string (bs x.k), .string (bs x.v)] := by
  obtain ⟨_, _, rfl, rfl, rfl⟩ := h
  rfl
theorem prK_mkM (w : World) (base : Nat) (ok : Nat → Prop) (x : Pr) : prK.M w base ok x [.string (bs x.k), .string (bs x.v)] := ⟨[.string (bs x.k)], [.string (bs x.v)], rfl, rfl, rfl⟩
theorem prK_KM {w w0 : World} {base : Nat} {ok : Nat → Prop} {x : Pr} {cs : List Value} (h : prK.K w x cs) : prK.M w0 base ok x cs := by
  obtain rfl := prK_open h
  exact prK_mkM _ _ _ x
def prA (l : List Pr) (i : Nat) : Pr := l.getD i default
theorem prA_get (l : List Pr) (i : Nat) (h : i < l.length) : prA l i = l[i] := by simp [prA, List.getD_eq_getElem?_getD, List.getElem?_eq_getElem h]
theorem at_pr {w : World} {A : Option Addr} {n : Nat} {xs : List Pr} (h : Kd.C prK w A n xs) (i : Int) (h0 : 0 ≤ i) (h1 : i < n) :
    ∃ ad, A = some ad ∧ w.cell? (ad.add (i.toNat * 2)) = some (.string (bs (prA xs i.toNat).k)) ∧ w.cell? ⟨(ad.add (i.toNat * 2)).block, (ad.add (i.toNat * 2)).off + 1, none⟩ = some (.string (bs (prA xs i.toNat).v)) := by
  obtain ⟨ad, c, e, _, hK, hc0⟩ := Kd.C_get h default i h0 h1
  have hc : ∀ j u, c[j]? = some u → w.cell? (ad.add (i.toNat * 2 + j)) = some u := hc0
  obtain rfl := prK_open hK
  exact ⟨ad, e, hc 0 _ rfl, by rw [← add_field _ _ 1 (by omega)]; exact hc 1 _ rfl⟩
def Pr.bytes (x : Pr) : List UInt8 := textL x.k ++ textL x.v
def prsB (l : List Pr) : List UInt8 := l.flatMap Pr.bytes
theorem prsB_snoc (l : List Pr) (x : Pr) : prsB (l ++ [x]) = prsB l ++ x.bytes := by simp [prsB]
theorem prsB_cons (x : Pr) (l : List Pr) : prsB (x :: l) = textL x.k ++ (textL x.v ++ prsB l) := by simp [prsB, Pr.bytes]
theorem textL_len (s : List UInt8) (h : s.length ≤ 1000) : (textL s).length ≤ 1009 := by
  have := numL_len (n := s.length) (by omega)
  simp [textL]; omega
theorem prsB_len : ∀ l : List Pr, (∀ x ∈ l, x.small) → (prsB l).length ≤ 2018 * l.length
  | [], _ => by simp [prsB]
  | x :: l, h => by
    have h1 := prsB_len l (fun y hy => h y (by simp [hy]))
    obtain ⟨h2, h3⟩ := h x (by simp)
    have h4 := textL_len x.k h2
    have h5 := textL_len x.v h3
    rw [prsB_cons]
    simp only [List.length_append, List.length_cons]
    omega
def TextRel (l : List Pr) (w : World) (s i : Value) (wr : World) : Prop :=
  ∃ k : Nat, k ≤ l.length ∧ i = .int .i64 k ∧ s = .string (bs (prsB (l.take k))) ∧ Below w.heap.size w wr
theorem text_any (l : List Pr) (hl : ∀ x ∈ l, x.small) (hn : l.length ≤ 10000) (A : Option Addr) (c : Nat) (w : World) (hC : Kd.C prK w A l.length l) :
    Calls Try.prog 86 #[.slice A l.length c] w fun e w' => e = .returned (.string (bs (prsB l))) ∧ Below w.heap.size w w' := by
  have HC := Lib.hid hC
  have Hs := Lib.hid hl
  clear hC hl
  go_enter Try.func86, Try.ntmps86
  go_wp2
  go_loopw [3, 8] (fun s i wr => TextRel l w s i wr) (fun _ i _ => l.length - (intOf i).toNat)
  case atStart => exact ⟨0, by omega, rfl, rfl, Below.refl _ _⟩
  case round =>
    obtain ⟨k, hk, rfl, rfl, hB⟩ := hrel
    have HB := Lib.hid hB
    clear hB
    by_cases hlt : k < l.length
    · obtain ⟨ad, e, d0, d1⟩ := at_pr (Kd.C_below HC.out HB.out) (k : Int) (by omega) (by omega)
      cases e
      rw [Int.toNat_natCast] at d0 d1
      obtain ⟨x, hx⟩ : ∃ x, x = prA l k := ⟨_, rfl⟩
      rw [← hx] at d0 d1
      have hxs : x.small := by rw [hx, prA_get l k hlt]; exact Hs.out _ (by simp)
      have hst : prsB (l.take (k + 1)) = prsB (l.take k) ++ x.bytes := by rw [List.take_succ_eq_append_getElem hlt, prsB_snoc, hx, prA_get l k hlt]
      have hlen := prsB_len (l.take k) (fun y hy => Hs.out y (List.mem_of_mem_take hy))
      have htk : (l.take k).length = k := by rw [List.length_take]; omega
      rw [htk] at hlen
      obtain ⟨S, hS⟩ : ∃ S, S = prsB (l.take k) := ⟨_, rfl⟩
      rw [← hS] at hst hlen ⊢
      have Hst := Lib.hid hst
      clear hst hS hx htk
      have z := bs_size S
      go_upto_region 5 with fail
      obtain ⟨w1, hw1⟩ : ∃ w1, w1 = wr.alloc (.cells #[.string (bs x.k), .string (bs x.v)] 63) := ⟨_, rfl⟩
      rw [← hw1]
      have hB1 : Below w.heap.size w w1 := by rw [hw1]; exact HB.out.alloc HB.out.size _
      have hb1 : Blk w1 wr.heap.size #[.string (bs x.k), .string (bs x.v)] 63 := by rw [hw1]; exact Blk.new wr _ 63
      have c0 : w1.cell? ⟨wr.heap.size, 0, none⟩ = some (.string (bs x.k)) := hb1.cell 0
      have c1 : w1.cell? ⟨wr.heap.size, 1, none⟩ = some (.string (bs x.v)) := hb1.cell 1
      have HB1 := Lib.hid hB1
      have k0 := fun n => later_cell c0 n
      have k1 := fun n => later_cell c1 n
      obtain ⟨h2, h3⟩ := hxs
      obtain ⟨P1, hP1⟩ : ∃ P, P = textL x.k := ⟨_, rfl⟩
      obtain ⟨P2, hP2⟩ : ∃ P, P = textL x.v := ⟨_, rfl⟩
      have z1 := bs_size P1
      have z2 := bs_size P2
      have l1 : P1.length ≤ 1009 := by rw [hP1]; exact textL_len _ h2
      have l2 : P2.length ≤ 1009 := by rw [hP2]; exact textL_len _ h3
      have m1 := calls_later (P := Try.prog) (f := 76) (w := w1) (v := .string (bs P1)) (fun w2 _ => by rw [hP1]; exact ctext_any x.k (by omega) w2)
      have m2 := calls_later (P := Try.prog) (f := 76) (w := w1) (v := .string (bs P2)) (fun w2 _ => by rw [hP2]; exact ctext_any x.v (by omega) w2)
      have Hby := Lib.hid (show x.bytes = P1 ++ P2 by rw [hP1, hP2]; rfl)
      clear hw1 hB1 hb1 c0 c1 d0 d1 hP1 hP2
      refine wp_region_later (by kernel_rfl) (by kernel_rfl) ?_
      repeat go_big_quiet_step (fail)
      go_big_quiet_step (with_reducible exact m1 _)
      repeat go_big_quiet_step (fail)
      go_big_quiet_step (with_reducible exact m2 _)
      repeat go_big_quiet_step (fail)
      refine wpQuiet_nil ?_
      intro w2 hw2
      have HB2 := Lib.hid (HB1.out.trans ((later_of hw2).mono HB1.out.size))
      clear hw2 m1 m2 k0 k1
      go_wp2
      go_roundw
      case rel => exact ⟨k + 1, by omega, by go_num, by rw [Hst.out, Hby.out, bs_app, bs_app], HB2.out⟩
      case measure => simp [intOf]; omega
    · obtain rfl : k = l.length := by omega
      rw [List.take_length]
      go_wp2
      go_ret
      exact ⟨rfl, HB.out⟩
end Go.Proofs.Yteilmbhnbmmcjaa.B
