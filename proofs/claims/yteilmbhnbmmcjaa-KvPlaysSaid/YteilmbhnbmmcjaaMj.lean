/- Helper: the plain device in memory: a step; walked. No condition. -/
import Derived.Test.YteilmbhnbmmcjaaMi
namespace Go.Proofs.Yteilmbhnbmmcjaa.B
open Go.RowKit Go.Maps Go.Proofs.YteilmbhnbmmcjaaW.PrintWords
set_option maxRecDepth 100000
set_option maxHeartbeats 1600000
/-- What a step's own function does. -/
def CPost (a base tp : Nat) (wa : World) (x : Int × Tree) (e : Ending) (w' : World) : Prop :=
  e = .returned (.int .i64 x.1) ∧ Mut (fun i => i = a ∨ base ≤ i) wa w' ∧ (x.1 = 0 → TreeAt base w' tp x.2) ∧ ∀ np oo M n, Blk wa a (mdCells np oo M n) 94 → I64 n → ∃ n', Blk w' a (mdCells np oo M n') 94 ∧ I64 n'
def mStep (M : Md) (x : Int × Tree) : Int × Md :=
  if 8 ≤ M.many then (171, M) else if x.1 ≠ 0 then (x.1, M) else (0, { M with opn := some x.2, many := M.many + 1 })
theorem step_m (M : Md) (a : Nat) (w : World) (h : MdAt w a M) (T : Tree) (hO : M.opn = some T) (hm : 0 ≤ M.many) (g : Nat) (caps : Array Value) (x : Int × Tree) (hx : x.1 = 0 → WfT x.2 ∧ (total x.2 : Int) ≤ M.pl ∧ (total x.2 : Int) ≤ M.ks ∧ total x.2 < 100000)
    (hcall : ∀ (W : World) (v : Value), (callFunc g (#[v] ++ caps)).run Try.prog W = .ok (.enter g (#[v] ++ caps)) W)
    (hf : ∀ (wa : World), TreeAt w.heap.size wa w.heap.size T → Below w.heap.size w wa → Calls Try.prog g (#[.map (some w.heap.size)] ++ caps) wa (CPost a w.heap.size w.heap.size wa x)) :
    Calls Try.prog 45 #[.pointer (some ⟨a, 0, none⟩), .func (.func g) #[] caps] w fun e w' => e = .returned (.int .i64 (mStep M x).1) ∧ MdAt w' a (mStep M x).2 ∧ Mut (only a) w w' := by
  have hmd := h
  obtain ⟨np, oo, n, hb, ht, hw, ho, hn⟩ := h
  have c1 : w.cell? ⟨a, 1, none⟩ = some (.map oo) := hb.cell 1
  have c7 : w.cell? ⟨a, 7, none⟩ = some (.int .i64 M.many) := hb.cell 7
  rw [hO] at ho
  obtain ⟨tp, rfl, h1, h2⟩ := ho
  have Hmd := Lib.hid hmd
  have Hb := Lib.hid hb
  have Ht := Lib.hid ht
  have H1 := Lib.hid h1
  have Hf := Lib.hid hf
  have hal := hb.lt
  clear hmd hb ht h1 hf
  by_cases h8 : 8 ≤ M.many
  · go_enter Try.func45, Try.ntmps45
    go_wp2
    go_ret
    have e : mStep M x = (171, M) := by simp [mStep, h8]
    rw [e]
    exact ⟨rfl, Hmd.out, Mut.refl _ _⟩
  · go_enter Try.func45, Try.ntmps45
    go_wp2_with fail
    refine (tclone_any T h2 0 tp w H1.out).mono ?_
    rintro e w1 ⟨rfl, hc, hB⟩
    have HC := Lib.hid hc
    have HB := Lib.hid hB
    clear hc hB
    go_wp2_with fail
    refine (Hf.out w1 HC.out HB.out).mono ?_
    rintro e w2 ⟨rfl, hm2, hT2, hn2⟩
    obtain ⟨n', hb2, hn'⟩ := hn2 _ _ _ _ (Hb.out.below HB.out) hn
    have hmw : Mut (only a) w w2 := by
      have := (Mut.of_below (S := fun i => i = a ∨ w.heap.size ≤ i) HB.out).trans hm2
      exact this.mono (fun i hi hs => by rcases hs with h | h; exact h; omega)
    have d1 : w2.cell? ⟨a, 1, none⟩ = some (.map (some tp)) := hb2.cell 1
    have d2 : w2.cell? ⟨a, 2, none⟩ = some (.int .i64 M.pl) := hb2.cell 2
    have d3 : w2.cell? ⟨a, 3, none⟩ = some (.int .i64 M.ks) := hb2.cell 3
    have d4 : w2.cell? ⟨a, 4, none⟩ = some (.int .i64 M.rs) := hb2.cell 4
    have d5 : w2.cell? ⟨a, 5, none⟩ = some (.int .i64 M.ss) := hb2.cell 5
    have d7 : w2.cell? ⟨a, 7, none⟩ = some (.int .i64 M.many) := hb2.cell 7
    have f1 := hb2.free 1
    have f7 := hb2.free 7
    have hS : ∀ i, only a i → ∀ es cl, w.heap[i]? ≠ some (.map es cl) := fun i hi es cl e => by
      obtain rfl := hi
      have := Hb.out
      rw [Blk] at this
      rw [this] at e
      cases e
    have Hnow := Lib.hid (Ht.out.cellsMut hmw hS)
    have Hopn := Lib.hid (H1.out.cellsMut hmw hS)
    have HT2 := Lib.hid hT2
    have HMW := Lib.hid hmw
    have Hb2 := Lib.hid hb2
    clear hm2 hn2 hb2 hT2 hmw hS
    by_cases hx0 : x.1 = 0
    · have hxb : (x.1 != 0) = false := by simp [hx0]
      obtain ⟨q1, q2, q3, q4⟩ := hx hx0
      have Hq := Lib.hid q1
      clear q1
      go_wp2_with fail
      refine (fits_any x.2 Hq.out w.heap.size w.heap.size w2 (HT2.out hx0) M.pl M.ks M.rs M.ss q2 q3 q4).mono ?_
      rintro e w3 ⟨rfl, hB3⟩
      have hb3 := Hb2.out.below hB3
      have g7 : w3.cell? ⟨a, 7, none⟩ = some (.int .i64 M.many) := hb3.cell 7
      have g1 : w3.cell? ⟨a, 1, none⟩ = some (.map (some tp)) := hb3.cell 1
      have k1 := hb3.free 1
      have k7 := hb3.free 7
      have HB3 := Lib.hid hB3
      have Hb3 := Lib.hid hb3
      clear hB3 hb3
      go_wp2
      go_ret
      have e : mStep M x = (0, { M with opn := some x.2, many := M.many + 1 }) := by simp [mStep, h8, hx0]
      rw [e]
      have r1 := Hb3.out.set 1 (.map (some w.heap.size))
      have r2 := r1.set 7 (.int .i64 (M.many + 1))
      refine ⟨rfl, ⟨np, some w.heap.size, n', by simpa [mdCells] using r2, ?_, hw, ⟨w.heap.size, rfl, ?_, Hq.out⟩, hn'⟩, ?_⟩
      · exact ((Hnow.out.below HB3.out).setCell Hb3.out _ _).setCell r1 _ _
      · exact ((((HT2.out hx0).lower (Nat.zero_le _)).below HB3.out).setCell Hb3.out _ _).setCell r1 _ _
      · exact ((HMW.out.trans (Mut.of_below HB3.out)).cellOf _ _).cellOf _ _
    · have hxb : (x.1 != 0) = true := bne_iff_ne.2 hx0
      go_wp2
      go_ret
      have e : mStep M x = (x.1, M) := by rw [mStep, if_neg (by omega), if_pos hx0]
      rw [e]
      exact ⟨rfl, ⟨np, some tp, n', Hb2.out, Hnow.out, hw, by rw [hO]; exact ⟨tp, rfl, Hopn.out, h2⟩, hn'⟩, HMW.out⟩
end Go.Proofs.Yteilmbhnbmmcjaa.B
