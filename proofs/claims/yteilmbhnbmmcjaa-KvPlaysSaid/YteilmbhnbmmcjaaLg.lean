/- Helper: a page's notes read; walked. No condition. -/
import Derived.Test.YteilmbhnbmmcjaaLf
import Derived.Test.YteilmbhnbmmcjaaLp
import Derived.Outline
namespace Go.Proofs.Yteilmbhnbmmcjaa.B
open Go.RowKit Go.Proofs.YteilmbhnbmmcjaaW.PrintWords Go.Proofs.Yteilmbhnbmmcjaa.Later
set_option maxRecDepth 100000
set_option maxHeartbeats 800000
instance : Inhabited Nt := ⟨⟨0, 0, []⟩⟩
def ntK : Kd Nt := Kd.iso (Kd.pair (Kd.int .i64) (Kd.pair (Kd.int .i64) Kd.string)) (fun x => ((x.n : Int), (x.k : Int), bs x.t))
theorem ntK_open {w : World} {x : Nt} {cs : List Value} (h : ntK.K w x cs) : cs = [.int .i64 x.n, .int .i64 x.k, .string (bs x.t)] := by
  obtain ⟨_, _, rfl, rfl, _, _, rfl, rfl, rfl⟩ := h
  rfl
theorem ntK_mkM (w : World) (base : Nat) (ok : Nat → Prop) (x : Nt) : ntK.M w base ok x [.int .i64 x.n, .int .i64 x.k, .string (bs x.t)] :=
  ⟨[.int .i64 x.n], [.int .i64 x.k, .string (bs x.t)], rfl, rfl, [.int .i64 x.k], [.string (bs x.t)], rfl, rfl, rfl⟩
def ntA (l : List Nt) (i : Nat) : Nt := l.getD i default
theorem at_nt {w : World} {A : Option Addr} {n : Nat} {xs : List Nt} (h : Kd.C ntK w A n xs) (i : Int) (h0 : 0 ≤ i) (h1 : i < n) :
    ∃ ad, A = some ad ∧ w.cell? (ad.add (i.toNat * 3)) = some (.int .i64 (ntA xs i.toNat).n) ∧ w.cell? ⟨(ad.add (i.toNat * 3)).block, (ad.add (i.toNat * 3)).off + 1, none⟩ = some (.int .i64 (ntA xs i.toNat).k) ∧
      w.cell? ⟨(ad.add (i.toNat * 3)).block, (ad.add (i.toNat * 3)).off + 2, none⟩ = some (.string (bs (ntA xs i.toNat).t)) := by
  obtain ⟨ad, c, e, _, hK, hc0⟩ := Kd.C_get h default i h0 h1
  have hc : ∀ j u, c[j]? = some u → w.cell? (ad.add (i.toNat * 3 + j)) = some u := hc0
  obtain rfl := ntK_open hK
  exact ⟨ad, e, hc 0 _ rfl, by rw [← add_field _ _ 1 (by omega)]; exact hc 1 _ rfl, by rw [← add_field _ _ 2 (by omega)]; exact hc 2 _ rfl⟩
theorem R_mut {α : Type} {d : Kd α} {e : Nat} {w w' : World} {base : Nat} {ok : Nat → Prop} {v : Value} {xs : List α} (h : d.R e w base ok v xs) {g t : Nat} {cells : Array Value} (hb : Blk w g cells t) (ht : ∀ q, q ∈ e :: d.E → q ≠ t) (hm : Mut (only g) w w') : d.R e w' base ok v xs :=
  Kd.R_mono (Kd.R_step (Kd.R_types h hb ht) (fun k hk hlt => hm.block k hlt hk.2)) (fun _ hk => hk.1)
theorem Below.mut {B g : Nat} {w w1 w2 : World} (h : Below B w w1) (hm : Mut (only g) w1 w2) (hB : B ≤ w1.heap.size) (hg : B ≤ g) : Below B w w2 :=
  h.trans (hm.below hB (fun i hi e => by unfold only at e; omega))
def ntsB (l : List Nt) : List UInt8 := l.flatMap Nt.bytes
theorem ntsB_cons (x : Nt) (l : List Nt) : ntsB (x :: l) = numL x.n ++ (numL x.k ++ (textL x.t ++ ntsB l)) := by simp [ntsB, Nt.bytes]
def slLen : Value → Nat
  | .slice _ n _ => n
  | _ => 0
def ReadRel (l : List Nt) (w : World) (v : Value) (wr : World) : Prop :=
  ∃ (done rest : List Nt), l = done ++ rest ∧ ntK.R 45 wr w.heap.size (fun _ => True) v done ∧ RdAt wr w.heap.size ⟨ntsB rest, 0⟩ ∧ Below w.heap.size w wr
theorem info45 : (Try.prog.info? 45).map (fun i => (i.zero, i.size, i.bytes)) = some (some (.agg #[.int .i64 0, .int .i64 0, .string ⟨#[]⟩]), 3, 32) := by kernel_rfl
theorem numL_pos (n : Nat) : 1 ≤ (numL n).length := by simp [numL]
theorem read_ok (l : List Nt) (hl : ∀ x ∈ l, x.ok) (hn : l.length ≤ 1000) (w : World) :
    Calls Try.prog 51 #[.string (bs (ntsB l))] w fun e w' => (∃ v, e = .returned (.tuple #[v, .int .i64 0]) ∧ ntK.R 45 w' w.heap.size (fun _ => True) v l) ∧ Below w.heap.size w w' := by
  go_enter Try.func51, Try.ntmps51
  go_wp2_with fail
  refine (new_any (ntsB l) w).mono ?_
  rintro e w1 ⟨rfl, hr, hB⟩
  go_wp2
  go_loopw [4] (fun v wr => ReadRel l w v wr) (fun v _ => l.length - slLen v)
  case atStart => exact ⟨[], l, rfl, Kd.R_nil _ _ _ _ _, hr, hB⟩
  case round =>
    clear hr hB
    obtain ⟨done, rest, he, hR, hr, hB⟩ := hrel
    obtain ⟨A, c, rfl⟩ := Kd.R_slice hR
    have HR := Lib.hid hR
    have Hr := Lib.hid hr
    have HB := Lib.hid hB
    have hdl : done.length + rest.length = l.length := by rw [he]; simp
    have He := Lib.hid he
    clear hR hr hB he
    go_wp2_with fail
    refine (left_any _ _ wr Hr.out).mono ?_
    rintro e w2 ⟨rfl, rfl⟩
    cases rest with
    | nil =>
      simp only [ntsB, List.flatMap_nil, List.length_nil]
      go_wp2
      go_ret2
      have : l = done := by rw [He.out]; simp
      exact ⟨⟨_, rfl, by rw [this]; exact HR.out⟩, HB.out⟩
    | cons x rest =>
      have hx : x.ok := hl x (by rw [He.out]; simp)
      obtain ⟨hx1, hx2, hx3⟩ := hx
      have n1 := num_numL x.n 1073741824 (numL x.k ++ (textL x.t ++ ntsB rest)) hx1 (by omega)
      have n2 := num_numL x.k 255 (textL x.t ++ ntsB rest) hx2 (by omega)
      have n3 := text_textL x.t (ntsB rest) 40 hx3 (by omega)
      have hlen : 0 < (ntsB (x :: rest)).length := by rw [ntsB_cons]; have := numL_pos x.n; simp; omega
      rw [← ntsB_cons] at n1
      obtain ⟨L, hL⟩ : ∃ L, L = ntsB (x :: rest) := ⟨_, rfl⟩
      rw [← hL] at Hr n1 hlen ⊢
      clear hL
      have k1 := rnum_any ⟨L, 0⟩ 1073741824 (by omega) w.heap.size wr Hr.out
      rw [n1] at k1
      have K1 := Lib.hid k1
      have N2 := Lib.hid n2
      have N3 := Lib.hid n3
      clear n1 n2 n3 k1
      go_wp2_with fail
      refine K1.out.mono ?_
      rintro e w3 ⟨rfl, hr3, hm3⟩
      have hR3 := R_mut HR.out Hr.out (by decide) hm3
      have hB3 := Below.mut HB.out hm3 HB.out.size (Nat.le_refl _)
      have k2 := rnum_any _ 255 (by omega) w.heap.size w3 hr3
      rw [N2.out] at k2
      have K2 := Lib.hid k2
      clear k2 K1
      go_wp2_with fail
      refine K2.out.mono ?_
      rintro e w4 ⟨rfl, hr4, hm4⟩
      have hR4 := R_mut hR3 hr3 (by decide) hm4
      have hB4 := Below.mut hB3 hm4 hB3.size (Nat.le_refl _)
      have k3 := rtext_any _ 40 (by omega) w.heap.size w4 hr4
      rw [N3.out] at k3
      have K3 := Lib.hid k3
      clear k3 K2 hr3 hm3 hR3 hB3
      go_wp2_with fail
      refine K3.out.mono ?_
      rintro e w5 ⟨rfl, hr5, hm5⟩
      have HR5 := Lib.hid (R_mut hR4 hr4 (by decide) hm5)
      have HB5 := Lib.hid (Below.mut hB4 hm5 hB4.size (Nat.le_refl _))
      have Hr5 := Lib.hid hr5
      clear hR4 hr4 hm4 hB4 hm5 hr5 K3
      go_wp2_with fail
      obtain ⟨w6, hw6⟩ : ∃ w6, w6 = w5.alloc (.cells #[.int .i64 x.n, .int .i64 x.k, .string (bs x.t)] 45) := ⟨_, rfl⟩
      rw [← hw6]
      have hb56 : Below w5.heap.size w5 w6 := by rw [hw6]; exact (Below.refl _ _).alloc (Nat.le_refl _) _
      have hbk : Blk w6 w5.heap.size #[.int .i64 x.n, .int .i64 x.k, .string (bs x.t)] 45 := by rw [hw6]; exact Blk.new w5 _ 45
      have c0 : w6.cell? ⟨w5.heap.size, 0, none⟩ = some (.int .i64 x.n) := hbk.cell 0
      have c1 : w6.cell? ⟨w5.heap.size, 1, none⟩ = some (.int .i64 x.k) := hbk.cell 1
      have c2 : w6.cell? ⟨w5.heap.size, 2, none⟩ = some (.string (bs x.t)) := hbk.cell 2
      have HR6 := Lib.hid (Kd.R_below HR5.out hb56)
      have Hr6 := Lib.hid (Blk.below Hr5.out hb56)
      have HB6 := Lib.hid (HB5.out.trans (hb56.mono HB5.out.size))
      clear hw6 hb56 hbk HR5 HB5 Hr5
      refine (err_any ⟨ntsB rest, 0⟩ _ w6 Hr6.out).mono ?_
      rintro e w7 ⟨rfl, rfl⟩
      go_wp2_with (first
        | (at_builtin; (refine Kd.R_append ntK (w0 := w) w.heap.size rfl (.tmp 26) (.tmp 28) 39 45 _ 32 rfl Try.underlying39 info45 rfl (by decide) (by decide) _ done x [.int .i64 x.n, .int .i64 x.k, .string (bs x.t)] (fun _ => True) (fun _ => False) rfl rfl ?p1 (fun _ hk => hk.elim) (fun _ _ => trivial) HR6.out HB6.out ?s1 ?l1 ?_); (case p1 => exact ntK_mkM _ _ _ x); (case s1 => exact HB6.out.size); (case l1 => omega); intro v1 w8 hR8 hB8 hg hat))
      refine ⟨⟨done ++ [x], rest, by rw [He.out]; simp, hR8, ?_, hB8⟩, ?_⟩
      · refine (hg.block w.heap.size ?_ ?_).trans Hr6.out
        · exact Blk.lt Hr6.out
        · exact Kd.R_ne HR6.out Hr6.out (by decide)
      · obtain ⟨A1, c1, rfl⟩ := Kd.R_slice hR8
        simp only [List.length_cons] at hdl
        simp [slLen]
        omega
end Go.Proofs.Yteilmbhnbmmcjaa.B
