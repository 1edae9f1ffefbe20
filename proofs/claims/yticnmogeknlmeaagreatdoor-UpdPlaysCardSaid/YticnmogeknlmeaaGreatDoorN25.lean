/- Helper: changes; a row of changes, plainly; the updater in memory. changes done at once, walked. changes that all go well, plainly; slots as trees. No condition. -/
import Derived.Test.YticnmogeknlmeaaGreatDoorN19
import Derived.Test.YticnmogeknlmeaaGreatDoorN02
import Derived.Test.YticnmogeknlmeaaGreatDoorN24
namespace Go.Proofs.YticnmogeknlmeaaGreatDoor.B
open Go.RowKit Go.Maps Go.Proofs.YticnmogeknlmeaaGreatDoorW.PrintWords Go.Proofs.YticnmogeknlmeaaGreatDoor.Later
set_option maxRecDepth 100000
set_option maxHeartbeats 1600000
/-- A change: a record, and what a page is to say. -/
structure Ch where
  r : Rc
  x : List UInt8
instance : Inhabited Ch := ⟨⟨⟨0, 0, 0, 0, 0, 0⟩, []⟩⟩
def Ch.cells (c : Ch) : List Value := [.int .i64 c.r.k, .int .i64 c.r.s, .int .i64 c.r.p, .int .i64 c.r.a, .int .i64 c.r.t, .int .i64 c.r.n, .string (bs c.x)]
def Ch.V (c : Ch) : Value := .agg #[.int .i64 c.r.k, .int .i64 c.r.s, .int .i64 c.r.p, .int .i64 c.r.a, .int .i64 c.r.t, .int .i64 c.r.n, .string (bs c.x)]
def chK : Kd Ch := Kd.iso (Kd.pair (Kd.int .i64) (Kd.pair (Kd.int .i64) (Kd.pair (Kd.int .i64) (Kd.pair (Kd.int .i64) (Kd.pair (Kd.int .i64) (Kd.pair (Kd.int .i64) Kd.string)))))) (fun c => (c.r.k, c.r.s, c.r.p, c.r.a, c.r.t, c.r.n, bs c.x))
theorem chK_open {w : World} {c : Ch} {cs : List Value} (h : chK.K w c cs) : cs = c.cells := by
  obtain ⟨_, _, rfl, rfl, _, _, rfl, rfl, _, _, rfl, rfl, _, _, rfl, rfl, _, _, rfl, rfl, _, _, rfl, rfl, rfl⟩ := h
  rfl
theorem chK_mkM (w : World) (base : Nat) (ok : Nat → Prop) (c : Ch) : chK.M w base ok c c.cells :=
  ⟨[.int .i64 c.r.k], _, rfl, rfl, [.int .i64 c.r.s], _, rfl, rfl, [.int .i64 c.r.p], _, rfl, rfl, [.int .i64 c.r.a], _, rfl, rfl, [.int .i64 c.r.t], _, rfl, rfl, [.int .i64 c.r.n], [.string (bs c.x)], rfl, rfl, rfl⟩
def chA (l : List Ch) (i : Nat) : Ch := l.getD i default
theorem chA_get (l : List Ch) (i : Nat) (h : i < l.length) : chA l i = l[i] := by simp [chA, List.getD_eq_getElem?_getD, List.getElem?_eq_getElem h]
/-- The cells of a change that is read out of a row. -/
theorem at_ch {w : World} {A : Option Addr} {n : Nat} {xs : List Ch} (h : Kd.C chK w A n xs) (i : Nat) (h1 : i < n) :
    ∃ ad, A = some ad ∧ w.cell? (ad.add (i * 7)) = some (.int .i64 (chA xs i).r.k) ∧ (∀ j, 0 < j → j < 7 → w.cell? ⟨(ad.add (i * 7)).block, (ad.add (i * 7)).off + j, none⟩ = (chA xs i).cells[j]?) ∧ (ad.add (i * 7)).block = ad.block := by
  obtain ⟨ad, c, e, _, hK, hc0⟩ := Kd.C_get h default (i : Int) (by omega) (by omega)
  have hc : ∀ j u, c[j]? = some u → w.cell? (ad.add ((i : Int).toNat * 7 + j)) = some u := hc0
  rw [show ((i : Int)).toNat = i from rfl] at hc
  obtain rfl := chK_open hK
  refine ⟨ad, e, hc 0 _ rfl, fun j h0 hj => ?_, ?_⟩
  · have hl : j < ((xs.getD i default)).cells.length := hj
    have h2 := hc j _ (List.getElem?_eq_getElem hl)
    rw [show (chA xs i).cells[j]? = some (((xs.getD i default)).cells[j]) from List.getElem?_eq_getElem hl, ← h2, ← add_field _ _ j h0]
  · unfold Addr.add; split <;> rfl
/-- What a change does to the open transaction. -/
def chStep (M : Md) (T : Tree) (c : Ch) : Int × Md :=
  if c.r.k = 1 then mPut M T c.r.s c.r.p (bs c.x)
  else if c.r.k = 2 then (if c.r.may then (if mayE T c.r.s ≠ 0 then (mayE T c.r.s, M) else mStep M (doT T c.r)) else (1, M))
  else (if c.r.may then mStep M (doT T c.r) else (1, M))
/-- The tree that a change would leave. -/
def treeOf (T : Tree) (c : Ch) : Int × Tree := if c.r.k = 1 then putT T c.r.s c.r.p (bs c.x) else doT T c.r
structure StepOk (M : Md) (T : Tree) (c : Ch) : Prop where
  opn : M.opn = some T
  many : 0 ≤ M.many
  kind : c.r.k = 1 ∨ c.r.k = 2 ∨ c.r.k = 4 ∨ c.r.k = 5
  s : I64 c.r.s
  p : I64 c.r.p
  x : c.x.length < 4294967296
  wf : WfT (treeOf T c).2
  fit : (treeOf T c).1 = 0 → (total (treeOf T c).2 : Int) ≤ M.pl ∧ (total (treeOf T c).2 : Int) ≤ M.ks ∧ total (treeOf T c).2 < 100000
def runM : Md → List Ch → Int × Md
  | M, [] => (0, M)
  | M, c :: l => match M.opn with
    | none => (180, M)
    | some T => if (chStep M T c).1 = 0 then runM (chStep M T c).2 l else chStep M T c
def RunOk : Md → List Ch → Prop
  | _, [] => True
  | M, c :: l => ∃ T, StepOk M T c ∧ ((chStep M T c).1 = 0 → RunOk (chStep M T c).2 l)
/-- What all changes at once do to a disk without an open transaction. -/
def allM (M : Md) (l : List Ch) : Int × Md :=
  let x := runM { M with opn := some M.now, many := 0 } l
  if x.1 = 0 then mEnd x.2 true else (x.1, (mEnd x.2 false).2)
theorem runM_cons {M : Md} {T : Tree} (h : M.opn = some T) (c : Ch) (l : List Ch) : runM M (c :: l) = if (chStep M T c).1 = 0 then runM (chStep M T c).2 l else chStep M T c := by
  rw [runM, h]
def UpAt (w : World) (u a : Nat) (pages size : Int) : Prop := Blk w u #[.iface 25 (.pointer (some ⟨a, 0, none⟩)), .int .i64 pages, .int .i64 size] 97
theorem UpAt.ne {w : World} {u a : Nat} {pages size : Int} {M : Md} (h : UpAt w u a pages size) (hM : MdAt w a M) : u ≠ a := by
  obtain ⟨np, oo, n, hb, _⟩ := hM
  rintro rfl
  have h1 : w.heap[u]? = _ := h
  have h2 : w.heap[u]? = _ := hb
  rw [h1] at h2
  have h3 : (97 : TypeId) = 118 := congrArg (fun o => match o with | some (Obj.cells _ t _) => t | _ => 0) h2
  exact absurd h3 (by decide)
end Go.Proofs.YticnmogeknlmeaaGreatDoor.B
namespace Go.Proofs.YticnmogeknlmeaaGreatDoor.B
open Go.RowKit Go.Maps Go.Proofs.YticnmogeknlmeaaGreatDoorW.PrintWords Go.Proofs.YticnmogeknlmeaaGreatDoor.Later
set_option maxRecDepth 100000
set_option maxHeartbeats 1600000
theorem methBegin (a : Nat) (W : World) : (method 319 25 (.pointer (some ⟨a, 0, none⟩)) "Begin").run Tryz.prog W = .ok (130, .pointer (some ⟨a, 0, none⟩)) W := by kernel_rfl
theorem methDo (a : Nat) (W : World) : (method 319 25 (.pointer (some ⟨a, 0, none⟩)) "Do").run Tryz.prog W = .ok (132, .pointer (some ⟨a, 0, none⟩)) W := by kernel_rfl
theorem methPut (a : Nat) (W : World) : (method 319 25 (.pointer (some ⟨a, 0, none⟩)) "Put").run Tryz.prog W = .ok (134, .pointer (some ⟨a, 0, none⟩)) W := by kernel_rfl
theorem methCommit (a : Nat) (W : World) : (method 319 25 (.pointer (some ⟨a, 0, none⟩)) "Commit").run Tryz.prog W = .ok (131, .pointer (some ⟨a, 0, none⟩)) W := by kernel_rfl
theorem methAbort (a : Nat) (W : World) : (method 319 25 (.pointer (some ⟨a, 0, none⟩)) "Abort").run Tryz.prog W = .ok (129, .pointer (some ⟨a, 0, none⟩)) W := by kernel_rfl
theorem methGet (a : Nat) (W : World) : (method 319 25 (.pointer (some ⟨a, 0, none⟩)) "Get").run Tryz.prog W = .ok (133, .pointer (some ⟨a, 0, none⟩)) W := by kernel_rfl
/-- A record's kinds other than putting a page. -/
theorem do_any (M : Md) (T : Tree) (c : Ch) (h : StepOk M T c) (h1 : c.r.k ≠ 1) (a : Nat) (w : World) (hM : MdAt w a M) : Calls Tryz.prog 132 #[.pointer (some ⟨a, 0, none⟩), .agg c.r.cells] w fun e w' => e = .returned (.int .i64 (chStep M T c).1) ∧ MdAt w' a (chStep M T c).2 ∧ Mut (only a) w w' := by
  have ht : treeOf T c = doT T c.r := if_neg h1
  have hw := h.wf
  have hf := h.fit
  rw [ht] at hw hf
  rcases h.kind with k | k | k | k
  · exact absurd k h1
  · have e : chStep M T c = if c.r.may then (if mayE T c.r.s ≠ 0 then (mayE T c.r.s, M) else mStep M (doT T c.r)) else (1, M) := by rw [chStep, if_neg h1, if_pos k]
    rw [e]
    exact do_m2 M a w hM T h.opn h.many c.r k h.s h.p (fun _ => hw) (fun _ => hf)
  · have e : chStep M T c = if c.r.may then mStep M (doT T c.r) else (1, M) := by rw [chStep, if_neg h1, if_neg (by omega)]
    rw [e]
    exact do_m4 M a w hM T h.opn h.many c.r k h.s (fun _ => hw) (fun _ => hf)
  · have e : chStep M T c = if c.r.may then mStep M (doT T c.r) else (1, M) := by rw [chStep, if_neg h1, if_neg (by omega)]
    rw [e]
    exact do_m5 M a w hM T h.opn h.many c.r k h.s (fun _ => hw) (fun _ => hf)
theorem put_any (M : Md) (T : Tree) (c : Ch) (h : StepOk M T c) (h1 : c.r.k = 1) (a : Nat) (w : World) (hM : MdAt w a M) : Calls Tryz.prog 134 #[.pointer (some ⟨a, 0, none⟩), .int .i64 c.r.s, .int .i64 c.r.p, .string (bs c.x)] w fun e w' => e = .returned (.int .i64 (chStep M T c).1) ∧ MdAt w' a (chStep M T c).2 ∧ Mut (only a) w w' := by
  have ht : treeOf T c = putT T c.r.s c.r.p (bs c.x) := if_pos h1
  have hw := h.wf
  have hf := h.fit
  rw [ht] at hw hf
  rw [chStep, if_pos h1]
  exact put_m M a w hM T h.opn h.many c.r.s c.r.p h.s h.p (bs c.x) (by rw [bs_size]; exact h.x) hw hf
theorem at_ch2 {w w' : World} {a : Nat} {A : Option Addr} {n : Nat} {xs : List Ch} (h : Kd.C chK w A n xs) (hA : ∀ ad, A = some ad → ad.block ≠ a) (hm : Mut (only a) w w') (i : Nat) (h1 : i < n) :
    ∃ ad, A = some ad ∧ w'.cell? (ad.add (i * 7)) = some (.int .i64 (chA xs i).r.k) ∧ w'.cell? ⟨(ad.add (i * 7)).block, (ad.add (i * 7)).off + 1, none⟩ = some (.int .i64 (chA xs i).r.s) ∧ w'.cell? ⟨(ad.add (i * 7)).block, (ad.add (i * 7)).off + 2, none⟩ = some (.int .i64 (chA xs i).r.p) ∧ w'.cell? ⟨(ad.add (i * 7)).block, (ad.add (i * 7)).off + 3, none⟩ = some (.int .i64 (chA xs i).r.a) ∧ w'.cell? ⟨(ad.add (i * 7)).block, (ad.add (i * 7)).off + 4, none⟩ = some (.int .i64 (chA xs i).r.t) ∧ w'.cell? ⟨(ad.add (i * 7)).block, (ad.add (i * 7)).off + 5, none⟩ = some (.int .i64 (chA xs i).r.n) ∧ w'.cell? ⟨(ad.add (i * 7)).block, (ad.add (i * 7)).off + 6, none⟩ = some (.string (bs (chA xs i).x)) := by
  obtain ⟨ad, e, h0, hj, hb⟩ := at_ch h i h1
  have hne : ¬ only a (ad.add (i * 7)).block := fun k => hA ad e (hb ▸ k)
  refine ⟨ad, e, hm.cell h0 hne, ?_⟩
  exact ⟨hm.cell (hj 1 (by decide) (by decide)) hne, hm.cell (hj 2 (by decide) (by decide)) hne, hm.cell (hj 3 (by decide) (by decide)) hne, hm.cell (hj 4 (by decide) (by decide)) hne, hm.cell (hj 5 (by decide) (by decide)) hne, hm.cell (hj 6 (by decide) (by decide)) hne⟩
theorem runOk_at {M : Md} {l : List Ch} {i : Nat} (hi : i < l.length) (h : RunOk M (l.drop i)) : ∃ T, StepOk M T (chA l i) ∧ ((chStep M T (chA l i)).1 = 0 → RunOk (chStep M T (chA l i)).2 (l.drop (i + 1))) ∧ runM M (l.drop i) = if (chStep M T (chA l i)).1 = 0 then runM (chStep M T (chA l i)).2 (l.drop (i + 1)) else chStep M T (chA l i) := by
  rw [List.drop_eq_getElem_cons hi] at h ⊢
  rw [← chA_get l i hi] at h ⊢
  obtain ⟨T, h1, h2⟩ := h
  exact ⟨T, h1, h2, runM_cons h1.opn _ _⟩
theorem all_t (M : Md) (l : List Ch) (hl : l.length < 1000) (a u : Nat) (pages size : Int) (A : Option Addr) (c : Nat) (w : World) (hM : MdAt w a M) (hO : M.opn = none) (hU : UpAt w u a pages size) (hC : Kd.C chK w A l.length l) (hA : ∀ ad, A = some ad → ad.block ≠ a) (hR : RunOk { M with opn := some M.now, many := 0 } l) :
    Calls Tryz.prog 39 #[.pointer (some ⟨u, 0, none⟩), .slice A l.length c] w fun e w' => e = .returned (.int .i64 (allM M l).1) ∧ MdAt w' a (allM M l).2 ∧ Mut (only a) w w' := by
  have hne := hU.ne hM
  have c0 : w.cell? ⟨u, 0, none⟩ = some (.iface 25 (.pointer (some ⟨a, 0, none⟩))) := Blk.cell hU 0
  obtain ⟨X, hX⟩ : ∃ X, X = runM { M with opn := some M.now, many := 0 } l := ⟨_, rfl⟩
  have hall : allM M l = if X.1 = 0 then mEnd X.2 true else (X.1, (mEnd X.2 false).2) := by rw [hX]; rfl
  have HM := Lib.hid hM
  have HU := Lib.hid hU
  have HC := Lib.hid hC
  have HA := Lib.hid hA
  have HR := Lib.hid hR
  have HX := Lib.hid hX
  obtain ⟨Y, hY⟩ : ∃ Y, Y = allM M l := ⟨_, rfl⟩
  rw [← hY] at hall ⊢
  have HY := Lib.hid hall
  clear hM hU hC hA hR hX hY hall
  have q1 := methBegin a
  have q2 := methPut a
  have q3 := methCommit a
  have q4 := methAbort a
  have q5 := methDo a
  go_enter Tryz.func39, Tryz.ntmps39
  go_wp2_with fail
  refine (begin_any M a w HM.out).mono ?_
  rw [hO]
  rintro e w1 ⟨rfl, h1, hm1⟩
  have H1 := Lib.hid (show MdAt w1 a { M with opn := some M.now, many := 0 } from h1)
  have Hm1 := Lib.hid hm1
  clear h1 hm1 c0
  rw [show (if (none : Option Tree).isSome = true then (180 : Int) else 0) = 0 from rfl]
  go_wp2_with fail
  go_loopg [20] l.length (fun g z wx => ∃ (i : Nat) (Mi : Md), i + g = l.length ∧ z = .int .i64 (i : Int) ∧ MdAt wx a Mi ∧ RunOk Mi (l.drop i) ∧ runM Mi (l.drop i) = X ∧ Mut (only a) w wx)
  case atStart => exact ⟨0, _, by omega, rfl, H1.out, by rw [List.drop_zero]; exact HR.out, by rw [List.drop_zero]; exact HX.out.symm, Hm1.out⟩
  case round =>
    obtain ⟨i, Mi, hi, rfl, hM, hR, hX, hm⟩ := hrel
    have HM := Lib.hid hM
    have HR := Lib.hid hR
    have HX := Lib.hid hX
    have Hm := Lib.hid hm
    have HU := Lib.hid (Blk.kept HU.out hm hne)
    clear hM hR hX hm
    have c0 : wr.cell? ⟨u, 0, none⟩ = some (.iface 25 (.pointer (some ⟨a, 0, none⟩))) := Blk.cell HU.out 0
    cases gk with
    | zero =>
      as_aux_lemma =>
        obtain rfl : i = l.length := by omega
        have hd : decide ((l.length : Int) < (l.length : Int)) = false := decide_eq_false (by omega)
        have hx : X = (0, Mi) := by rw [← HX.out, List.drop_length]; rfl
        have Hx := Lib.hid hx
        clear hx
        go_wp2_with fail
        refine (commit_m Mi a wr HM.out).mono ?_
        rintro e w2 ⟨rfl, h2, hm2⟩
        have H2 := Lib.hid h2
        have Hm2 := Lib.hid (Hm.out.trans hm2)
        clear h2 hm2
        go_wp2_with fail
        go_ret
        have hy : Y = mEnd Mi true := by rw [HY.out, Hx.out]; rfl
        rw [hy]
        exact ⟨rfl, H2.out, Hm2.out⟩
    | succ g =>
      as_aux_lemma =>
        have hlt : i < l.length := by omega
        have hd : decide ((i : Int) < (l.length : Int)) = true := decide_eq_true (by omega)
        obtain ⟨T, hs, hs2, hs3⟩ := runOk_at hlt HR.out
        obtain ⟨ad, rfl, e0, e1, e2, e3, e4, e5, e6⟩ := at_ch2 HC.out HA.out Hm.out i hlt
        obtain ⟨ch, hch⟩ : ∃ ch, ch = chA l i := ⟨_, rfl⟩
        rw [← hch] at hs hs2 hs3 e0 e1 e2 e3 e4 e5 e6
        rw [HX.out] at hs3
        have HS := Lib.hid hs
        have HS2 := Lib.hid hs2
        have HS3 := Lib.hid hs3
        clear hs hs2 hs3 hch
        by_cases h1 : ch.r.k = 1
        · have hk1 : (ch.r.k == 1) = true := beq_iff_eq.2 h1
          go_wp2_with fail
          have hba : Below wr.heap.size wr ((wr.alloc (.cells #[.int .i64 1, .int .i64 ch.r.s, .int .i64 ch.r.p, .int .i64 ch.r.a, .int .i64 ch.r.t, .int .i64 ch.r.n, .string (bs ch.x)] 102)).alloc (.cells #[.int .i64 1, .int .i64 ch.r.s, .int .i64 ch.r.p, .int .i64 ch.r.a, .int .i64 ch.r.t, .int .i64 ch.r.n] 100)) := ((Below.refl _ _).alloc (Nat.le_refl _) _).alloc (by simp) _
          have k7 := (Blk.new wr #[.int .i64 1, .int .i64 ch.r.s, .int .i64 ch.r.p, .int .i64 ch.r.a, .int .i64 ch.r.t, .int .i64 ch.r.n, .string (bs ch.x)] 102).below ((Below.refl _ _).alloc (Nat.le_refl _) (.cells #[.int .i64 1, .int .i64 ch.r.s, .int .i64 ch.r.p, .int .i64 ch.r.a, .int .i64 ch.r.t, .int .i64 ch.r.n] 100))
          have k6 := Blk.new (wr.alloc (.cells #[.int .i64 1, .int .i64 ch.r.s, .int .i64 ch.r.p, .int .i64 ch.r.a, .int .i64 ch.r.t, .int .i64 ch.r.n, .string (bs ch.x)] 102)) #[.int .i64 1, .int .i64 ch.r.s, .int .i64 ch.r.p, .int .i64 ch.r.a, .int .i64 ch.r.t, .int .i64 ch.r.n] 100
          rw [show (wr.alloc (.cells #[.int .i64 1, .int .i64 ch.r.s, .int .i64 ch.r.p, .int .i64 ch.r.a, .int .i64 ch.r.t, .int .i64 ch.r.n, .string (bs ch.x)] 102)).heap.size = wr.heap.size + 1 by simp] at k6
          obtain ⟨W, hW⟩ : ∃ W, W = ((wr.alloc (.cells #[.int .i64 1, .int .i64 ch.r.s, .int .i64 ch.r.p, .int .i64 ch.r.a, .int .i64 ch.r.t, .int .i64 ch.r.n, .string (bs ch.x)] 102)).alloc (.cells #[.int .i64 1, .int .i64 ch.r.s, .int .i64 ch.r.p, .int .i64 ch.r.a, .int .i64 ch.r.t, .int .i64 ch.r.n] 100)) := ⟨_, rfl⟩
          rw [← hW] at hba k7 k6 ⊢
          clear hW
          have e7 : W.cell? ⟨u, 0, none⟩ = some (.iface 25 (.pointer (some ⟨a, 0, none⟩))) := Blk.cell (Blk.below HU.out hba) 0
          have g0 : W.cell? ⟨wr.heap.size, 0, none⟩ = some (.int .i64 1) := k7.cell 0
          have g1 : W.cell? ⟨wr.heap.size, 1, none⟩ = some (.int .i64 ch.r.s) := k7.cell 1
          have g2 : W.cell? ⟨wr.heap.size, 2, none⟩ = some (.int .i64 ch.r.p) := k7.cell 2
          have g3 : W.cell? ⟨wr.heap.size, 3, none⟩ = some (.int .i64 ch.r.a) := k7.cell 3
          have g4 : W.cell? ⟨wr.heap.size, 4, none⟩ = some (.int .i64 ch.r.t) := k7.cell 4
          have g5 : W.cell? ⟨wr.heap.size, 5, none⟩ = some (.int .i64 ch.r.n) := k7.cell 5
          have g6 : W.cell? ⟨wr.heap.size, 6, none⟩ = some (.string (bs ch.x)) := k7.cell 6
          have h0' : W.cell? ⟨wr.heap.size + 1, 0, none⟩ = some (.int .i64 1) := k6.cell 0
          have h1' : W.cell? ⟨wr.heap.size + 1, 1, none⟩ = some (.int .i64 ch.r.s) := k6.cell 1
          have h2' : W.cell? ⟨wr.heap.size + 1, 2, none⟩ = some (.int .i64 ch.r.p) := k6.cell 2
          have h3' : W.cell? ⟨wr.heap.size + 1, 3, none⟩ = some (.int .i64 ch.r.a) := k6.cell 3
          have h4' : W.cell? ⟨wr.heap.size + 1, 4, none⟩ = some (.int .i64 ch.r.t) := k6.cell 4
          have h5' : W.cell? ⟨wr.heap.size + 1, 5, none⟩ = some (.int .i64 ch.r.n) := k6.cell 5
          clear k6 k7
          have hbd := below_drewN hba 1
          have HBD := Lib.hid hbd
          clear hba hbd
          go_still_tail 10, (by kernel_rfl)
          go_wp2_with fail
          refine (put_any Mi T ch HS.out h1 a _ (HM.out.below HBD.out)).mono ?_
          rintro e w3 ⟨rfl, h3, hm3⟩
          have hm13 := (Mut.of_below (S := only a) HBD.out).trans hm3
          have HM3 := Lib.hid h3
          have Hm3 := Lib.hid (Hm.out.trans hm13)
          have HU3 := Lib.hid (Blk.kept HU.out hm13 hne)
          clear h3 hm3 hm13 c0 e0 e1 e2 e3 e4 e5 e6 e7 g0 g1 g2 g3 g4 g5 g6 h0' h1' h2' h3' h4' h5'
          have d0 : w3.cell? ⟨u, 0, none⟩ = some (.iface 25 (.pointer (some ⟨a, 0, none⟩))) := Blk.cell HU3.out 0
          by_cases hz : (chStep Mi T ch).1 = 0
          · have hzb : ((chStep Mi T ch).1 != 0) = false := by simp [hz]
            have hx := HS3.out
            rw [if_pos hz] at hx
            have Hx := Lib.hid hx
            have HR3 := Lib.hid (HS2.out hz)
            clear hx hz
            go_wp2_with fail
            go_roundg g
            case measure => omega
            case rel => exact ⟨i + 1, _, by omega, by go_num, HM3.out, HR3.out, Hx.out.symm, Hm3.out⟩
          · have hzb : ((chStep Mi T ch).1 != 0) = true := bne_iff_ne.2 hz
            have hx := HS3.out
            rw [if_neg hz] at hx
            have hy : Y = ((chStep Mi T ch).1, (mEnd (chStep Mi T ch).2 false).2) := by rw [HY.out, hx, if_neg hz]
            have Hy := Lib.hid hy
            clear hx hz hy
            go_wp2_with fail
            refine (abort_m _ a w3 HM3.out).mono ?_
            rintro e w4 ⟨rfl, h4, hm4⟩
            have H4 := Lib.hid h4
            have Hm4 := Lib.hid (Hm3.out.trans hm4)
            clear h4 hm4
            go_wp2_with fail
            go_ret
            rw [Hy.out]
            exact ⟨rfl, H4.out, Hm4.out⟩
        · have hk1 : (ch.r.k == 1) = false := beq_eq_false_iff_ne.2 h1
          go_wp2_with fail
          have hba : Below wr.heap.size wr ((wr.alloc (.cells #[.int .i64 ch.r.k, .int .i64 ch.r.s, .int .i64 ch.r.p, .int .i64 ch.r.a, .int .i64 ch.r.t, .int .i64 ch.r.n, .string (bs ch.x)] 102)).alloc (.cells #[.int .i64 ch.r.k, .int .i64 ch.r.s, .int .i64 ch.r.p, .int .i64 ch.r.a, .int .i64 ch.r.t, .int .i64 ch.r.n] 100)) := ((Below.refl _ _).alloc (Nat.le_refl _) _).alloc (by simp) _
          have k7 := (Blk.new wr #[.int .i64 ch.r.k, .int .i64 ch.r.s, .int .i64 ch.r.p, .int .i64 ch.r.a, .int .i64 ch.r.t, .int .i64 ch.r.n, .string (bs ch.x)] 102).below ((Below.refl _ _).alloc (Nat.le_refl _) (.cells #[.int .i64 ch.r.k, .int .i64 ch.r.s, .int .i64 ch.r.p, .int .i64 ch.r.a, .int .i64 ch.r.t, .int .i64 ch.r.n] 100))
          have k6 := Blk.new (wr.alloc (.cells #[.int .i64 ch.r.k, .int .i64 ch.r.s, .int .i64 ch.r.p, .int .i64 ch.r.a, .int .i64 ch.r.t, .int .i64 ch.r.n, .string (bs ch.x)] 102)) #[.int .i64 ch.r.k, .int .i64 ch.r.s, .int .i64 ch.r.p, .int .i64 ch.r.a, .int .i64 ch.r.t, .int .i64 ch.r.n] 100
          rw [show (wr.alloc (.cells #[.int .i64 ch.r.k, .int .i64 ch.r.s, .int .i64 ch.r.p, .int .i64 ch.r.a, .int .i64 ch.r.t, .int .i64 ch.r.n, .string (bs ch.x)] 102)).heap.size = wr.heap.size + 1 by simp] at k6
          obtain ⟨W, hW⟩ : ∃ W, W = ((wr.alloc (.cells #[.int .i64 ch.r.k, .int .i64 ch.r.s, .int .i64 ch.r.p, .int .i64 ch.r.a, .int .i64 ch.r.t, .int .i64 ch.r.n, .string (bs ch.x)] 102)).alloc (.cells #[.int .i64 ch.r.k, .int .i64 ch.r.s, .int .i64 ch.r.p, .int .i64 ch.r.a, .int .i64 ch.r.t, .int .i64 ch.r.n] 100)) := ⟨_, rfl⟩
          rw [← hW] at hba k7 k6 ⊢
          clear hW
          have e7 : W.cell? ⟨u, 0, none⟩ = some (.iface 25 (.pointer (some ⟨a, 0, none⟩))) := Blk.cell (Blk.below HU.out hba) 0
          have g0 : W.cell? ⟨wr.heap.size, 0, none⟩ = some (.int .i64 ch.r.k) := k7.cell 0
          have g1 : W.cell? ⟨wr.heap.size, 1, none⟩ = some (.int .i64 ch.r.s) := k7.cell 1
          have g2 : W.cell? ⟨wr.heap.size, 2, none⟩ = some (.int .i64 ch.r.p) := k7.cell 2
          have g3 : W.cell? ⟨wr.heap.size, 3, none⟩ = some (.int .i64 ch.r.a) := k7.cell 3
          have g4 : W.cell? ⟨wr.heap.size, 4, none⟩ = some (.int .i64 ch.r.t) := k7.cell 4
          have g5 : W.cell? ⟨wr.heap.size, 5, none⟩ = some (.int .i64 ch.r.n) := k7.cell 5
          have g6 : W.cell? ⟨wr.heap.size, 6, none⟩ = some (.string (bs ch.x)) := k7.cell 6
          have h0' : W.cell? ⟨wr.heap.size + 1, 0, none⟩ = some (.int .i64 ch.r.k) := k6.cell 0
          have h1' : W.cell? ⟨wr.heap.size + 1, 1, none⟩ = some (.int .i64 ch.r.s) := k6.cell 1
          have h2' : W.cell? ⟨wr.heap.size + 1, 2, none⟩ = some (.int .i64 ch.r.p) := k6.cell 2
          have h3' : W.cell? ⟨wr.heap.size + 1, 3, none⟩ = some (.int .i64 ch.r.a) := k6.cell 3
          have h4' : W.cell? ⟨wr.heap.size + 1, 4, none⟩ = some (.int .i64 ch.r.t) := k6.cell 4
          have h5' : W.cell? ⟨wr.heap.size + 1, 5, none⟩ = some (.int .i64 ch.r.n) := k6.cell 5
          clear k6 k7
          have hbd := below_drewN hba 1
          have HBD := Lib.hid hbd
          clear hba hbd
          go_still_tail 5, (by kernel_rfl)
          go_wp2_with fail
          refine (do_any Mi T ch HS.out h1 a _ (HM.out.below HBD.out)).mono ?_
          rintro e w3 ⟨rfl, h3, hm3⟩
          have hm13 := (Mut.of_below (S := only a) HBD.out).trans hm3
          have HM3 := Lib.hid h3
          have Hm3 := Lib.hid (Hm.out.trans hm13)
          have HU3 := Lib.hid (Blk.kept HU.out hm13 hne)
          clear h3 hm3 hm13 c0 e0 e1 e2 e3 e4 e5 e6 e7 g0 g1 g2 g3 g4 g5 g6 h0' h1' h2' h3' h4' h5'
          have d0 : w3.cell? ⟨u, 0, none⟩ = some (.iface 25 (.pointer (some ⟨a, 0, none⟩))) := Blk.cell HU3.out 0
          by_cases hz : (chStep Mi T ch).1 = 0
          · have hzb : ((chStep Mi T ch).1 != 0) = false := by simp [hz]
            have hx := HS3.out
            rw [if_pos hz] at hx
            have Hx := Lib.hid hx
            have HR3 := Lib.hid (HS2.out hz)
            clear hx hz
            go_wp2_with fail
            go_roundg g
            case measure => omega
            case rel => exact ⟨i + 1, _, by omega, by go_num, HM3.out, HR3.out, Hx.out.symm, Hm3.out⟩
          · have hzb : ((chStep Mi T ch).1 != 0) = true := bne_iff_ne.2 hz
            have hx := HS3.out
            rw [if_neg hz] at hx
            have hy : Y = ((chStep Mi T ch).1, (mEnd (chStep Mi T ch).2 false).2) := by rw [HY.out, hx, if_neg hz]
            have Hy := Lib.hid hy
            clear hx hz hy
            go_wp2_with fail
            refine (abort_m _ a w3 HM3.out).mono ?_
            rintro e w4 ⟨rfl, h4, hm4⟩
            have H4 := Lib.hid h4
            have Hm4 := Lib.hid (Hm3.out.trans hm4)
            clear h4 hm4
            go_wp2_with fail
            go_ret
            rw [Hy.out]
            exact ⟨rfl, H4.out, Hm4.out⟩
end Go.Proofs.YticnmogeknlmeaaGreatDoor.B
namespace Go.Proofs.YticnmogeknlmeaaGreatDoor.B
open Go.RowKit
/-- Trees of the three spaces alone. -/
structure Tri (pg : Nat) (T : Tree) : Prop where
  non : ∀ k, k ≠ 1 → k ≠ 2 → k ≠ 3 → T k = none
  wf : WfT T
  q1 : qOf T 1 ≤ pg
  q2 : qOf T 2 ≤ pg
  q3 : qOf T 3 ≤ 4
theorem total3 {T : Tree} (h : ∀ k, k ≠ 1 → k ≠ 2 → k ≠ 3 → T k = none) : total T = qOf T 1 + qOf T 2 + qOf T 3 := by
  have z : ∀ k, k ≠ 1 → k ≠ 2 → k ≠ 3 → qOf T k = 0 := fun k a b c => by rw [qOf, h k a b c]
  unfold total tot
  simp only [if_true, sumTo]
  have e4 := z (3 + 1) (by decide) (by decide) (by decide)
  have e5 := z (4 + 1) (by decide) (by decide) (by decide)
  have e6 := z (5 + 1) (by decide) (by decide) (by decide)
  have e7 := z (6 + 1) (by decide) (by decide) (by decide)
  have e8 := z (7 + 1) (by decide) (by decide) (by decide)
  have e9 := z (8 + 1) (by decide) (by decide) (by decide)
  have e10 := z (9 + 1) (by decide) (by decide) (by decide)
  have e11 := z (10 + 1) (by decide) (by decide) (by decide)
  have e12 := z (11 + 1) (by decide) (by decide) (by decide)
  have e13 := z (12 + 1) (by decide) (by decide) (by decide)
  have e14 := z (13 + 1) (by decide) (by decide) (by decide)
  have e15 := z (14 + 1) (by decide) (by decide) (by decide)
  show 0 + qOf T ((0 : Nat) + 1) + qOf T ((1 : Nat) + 1) + qOf T ((2 : Nat) + 1) + qOf T (3 + 1) + qOf T (4 + 1) + qOf T (5 + 1) + qOf T (6 + 1) + qOf T (7 + 1) + qOf T (8 + 1) + qOf T (9 + 1) + qOf T (10 + 1) + qOf T (11 + 1) + qOf T (12 + 1) + qOf T (13 + 1) + qOf T (14 + 1) = _
  rw [e4, e5, e6, e7, e8, e9, e10, e11, e12, e13, e14, e15]
  show 0 + qOf T 1 + qOf T 2 + qOf T 3 + 0 + 0 + 0 + 0 + 0 + 0 + 0 + 0 + 0 + 0 + 0 + 0 = _
  omega
theorem Tri.total {pg : Nat} {T : Tree} (h : Tri pg T) : B.total T ≤ 2 * pg + 4 := by
  rw [total3 h.non]
  have := h.q1; have := h.q2; have := h.q3
  omega
/-- A disk in which a transaction is open. -/
structure Live (pg : Nat) (M : Md) (T : Tree) : Prop where
  opn : M.opn = some T
  tri : Tri pg T
  many : 0 ≤ M.many
  pl : 2 * (pg : Int) + 4 ≤ M.pl
  ks : 2 * (pg : Int) + 4 ≤ M.ks
  size : M.size = 64
  pg1 : pg ≤ 1024
def Md.to (M : Md) (T : Tree) : Md := { M with opn := some T, many := M.many + 1 }
theorem Live.to {pg : Nat} {M : Md} {T T' : Tree} (h : Live pg M T) (h' : Tri pg T') : Live pg (M.to T') T' := ⟨rfl, h', by have := h.many; show 0 ≤ M.many + 1; omega, h.pl, h.ks, h.size, h.pg1⟩
/-- All of these go well. -/
def Runs (M : Md) (l : List Ch) (M' : Md) : Prop := RunOk M l ∧ runM M l = (0, M')
theorem Runs.nil (M : Md) : Runs M [] M := ⟨trivial, rfl⟩
theorem Runs.cons {pg : Nat} {M M' : Md} {T T' : Tree} {c : Ch} {l : List Ch} (h : Live pg M T) (hs : StepOk M T c) (e : chStep M T c = (0, M.to T')) (k : Runs (M.to T') l M') : Runs M (c :: l) M' := by
  refine ⟨⟨T, hs, fun _ => ?_⟩, ?_⟩
  · rw [e]; exact k.1
  · rw [runM_cons h.opn, e]
    exact k.2
theorem Runs.append {M M1 M2 : Md} : ∀ {l1 l2 : List Ch}, Runs M l1 M1 → Runs M1 l2 M2 → Runs M (l1 ++ l2) M2 := by
  intro l1
  induction l1 generalizing M with
  | nil =>
    intro l2 h k
    obtain ⟨_, h⟩ := h
    have : M = M1 := congrArg Prod.snd h
    subst this
    exact k
  | cons c l ih =>
    intro l2 h k
    obtain ⟨⟨T, hs, hr⟩, e⟩ := h
    rw [runM_cons hs.opn] at e
    by_cases hz : (chStep M T c).1 = 0
    · rw [if_pos hz] at e
      have := ih ⟨hr hz, e⟩ k
      refine ⟨⟨T, hs, fun _ => this.1⟩, ?_⟩
      rw [List.cons_append, runM_cons hs.opn, if_pos hz]
      exact this.2
    · rw [if_neg hz] at e
      rw [e] at hz
      exact absurd rfl hz
theorem mStep_ok {pg : Nat} {M : Md} {T T' : Tree} (h : Live pg M T) (h8 : M.many < 8) : mStep M (0, T') = (0, M.to T') := by
  rw [mStep, if_neg (by omega), if_neg (by simp)]
  rfl
theorem fit_ok {pg : Nat} {M : Md} {T T' : Tree} (h : Live pg M T) (h' : Tri pg T') : (total T' : Int) ≤ M.pl ∧ (total T' : Int) ≤ M.ks ∧ total T' < 100000 := by
  have := h'.total
  have := h.pl; have := h.ks; have := h.pg1
  refine ⟨by omega, by omega, by omega⟩
theorem qOf_up (T : Tree) (k i : Int) (v : Option Sp) : qOf (upT T k v) i = if i = k then (match v with | some sp => sp.q.toNat | none => 0) else qOf T i := by
  unfold qOf
  by_cases h : i = k
  · subst h; rw [upT_same, if_pos rfl]; cases v <;> rfl
  · rw [upT_other _ _ h, if_neg h]
/-- One space becomes another one of as many pages. -/
theorem Tri.up {pg : Nat} {T : Tree} (h : Tri pg T) {k : Int} {sp sp' : Sp} (hk : T k = some sp) (hq : sp'.q = sp.q) (hp : ∀ p s, sp'.pages p = some s → 0 ≤ p ∧ p < sp'.q) : Tri pg (upT T k (some sp')) := by
  have h0 : k = 1 ∨ k = 2 ∨ k = 3 := by
    rcases Decidable.em (k = 1) with a | a
    · exact .inl a
    · rcases Decidable.em (k = 2) with b | b
      · exact .inr (.inl b)
      · rcases Decidable.em (k = 3) with c | c
        · exact .inr (.inr c)
        · have := h.non k a b c
          rw [hk] at this; cases this
  have hw := h.wf k sp hk
  have hqq : ∀ i, qOf (upT T k (some sp')) i = qOf T i := fun i => by
    rw [qOf_up]
    by_cases e : i = k
    · subst e; rw [if_pos rfl, qOf, hk]; show sp'.q.toNat = sp.q.toNat; rw [hq]
    · rw [if_neg e]
  refine ⟨fun i a b c => ?_, fun i s hi => ?_, by rw [hqq]; exact h.q1, by rw [hqq]; exact h.q2, by rw [hqq]; exact h.q3⟩
  · rw [upT_other _ _ (fun e => by omega)]; exact h.non i a b c
  · by_cases e : i = k
    · subst e
      rw [upT_same] at hi
      obtain rfl := Option.some.inj hi
      exact ⟨hw.1, hw.2.1, by rw [hq]; exact hw.2.2.1, by rw [hq]; exact hw.2.2.2.1, hp⟩
    · rw [upT_other _ _ e] at hi
      exact h.wf i s hi
theorem Tri.drop {pg : Nat} {T : Tree} (h : Tri pg T) (k : Int) : Tri pg (upT T k none) := by
  have hqq : ∀ i, qOf (upT T k none) i ≤ qOf T i := fun i => by
    rw [qOf_up]
    split
    · exact Nat.zero_le _
    · exact Nat.le_refl _
  refine ⟨fun i a b c => ?_, fun i s hi => ?_, Nat.le_trans (hqq 1) h.q1, Nat.le_trans (hqq 2) h.q2, Nat.le_trans (hqq 3) h.q3⟩
  · by_cases e : i = k
    · subst e; exact upT_same _ _ _
    · rw [upT_other _ _ e]; exact h.non i a b c
  · by_cases e : i = k
    · subst e; rw [upT_same] at hi; cases hi
    · rw [upT_other _ _ e] at hi; exact h.wf i s hi
theorem Tri.make {pg : Nat} {T : Tree} (h : Tri pg T) {k : Int} (hk : 1 ≤ k ∧ k ≤ 3) {n : Nat} (hn : n ≤ 1024) (hq : n ≤ if k = 3 then 4 else pg) : Tri pg (upT T k (some ⟨n, false, noPages⟩)) := by
  have hqq : ∀ i, qOf (upT T k (some ⟨n, false, noPages⟩)) i = if i = k then n else qOf T i := fun i => by
    rw [qOf_up]
    rfl
  have h3 : k = 3 ∨ k ≠ 3 := Decidable.em _
  refine ⟨fun i a b c => ?_, fun i s hi => ?_, ?_, ?_, ?_⟩
  · rw [upT_other _ _ (fun e => by omega)]; exact h.non i a b c
  · by_cases e : i = k
    · subst e
      rw [upT_same] at hi
      obtain rfl := Option.some.inj hi
      exact ⟨hk.1, by omega, by show (0 : Int) ≤ (n : Int); omega, by show (n : Int) ≤ 1024; omega, fun p s e => by cases e⟩
    · rw [upT_other _ _ e] at hi
      exact h.wf i s hi
  · rw [hqq]
    by_cases e : (1 : Int) = k
    · rw [if_pos e]; rw [if_neg (by omega)] at hq; exact hq
    · rw [if_neg e]; exact h.q1
  · rw [hqq]
    by_cases e : (2 : Int) = k
    · rw [if_pos e]; rw [if_neg (by omega)] at hq; exact hq
    · rw [if_neg e]; exact h.q2
  · rw [hqq]
    by_cases e : (3 : Int) = k
    · rw [if_pos e]; rw [if_pos e.symm] at hq; exact hq
    · rw [if_neg e]; exact h.q3
def putCh (id p : Int) (x : List UInt8) : Ch := ⟨⟨1, id, p, 0, 0, 0⟩, x⟩
def makeCh (id n : Int) : Ch := ⟨⟨4, id, 0, 0, 0, n⟩, []⟩
def dropCh (id : Int) : Ch := ⟨⟨5, id, 0, 0, 0, 0⟩, []⟩
def trimCh (id p : Int) : Ch := ⟨⟨2, id, p, 0, 0, 0⟩, []⟩
theorem i64_small {k : Int} (h : 0 ≤ k ∧ k ≤ 2000) : I64 k := by constructor <;> omega
def Sp.put (sp : Sp) (p : Int) (x : List UInt8) : Sp := { sp with pages := upP sp.pages p (some (bs x)) }
theorem Runs.put {pg : Nat} {M M' : Md} {T : Tree} (h : Live pg M T) (h8 : M.many < 8) {id p : Int} {x : List UInt8} {sp : Sp} (hid : T id = some sp) (hs : sp.sl = false) (hp : 0 ≤ p ∧ p < sp.q) (hx : x.length ≤ 64) {l : List Ch} (k : Runs (M.to (upT T id (some (sp.put p x)))) l M') :
    Runs M (putCh id p x :: l) M' ∧ Live pg (M.to (upT T id (some (sp.put p x)))) (upT T id (some (sp.put p x))) := by
  have hw := h.tri.wf id sp hid
  have hpt : putT T id p (bs x) = (0, upT T id (some (sp.put p x))) := by rw [putT, hid]; simp only []; rw [if_pos hp]; rfl
  have htri : Tri pg (upT T id (some (sp.put p x))) := h.tri.up hid rfl (fun q s e => by
    by_cases e2 : q = p
    · subst e2; exact hp
    · have : sp.pages q = some s := by simpa [Sp.put, upP, e2] using e
      exact hw.2.2.2.2 q s this)
  have hl : Live pg (M.to (upT T id (some (sp.put p x)))) (upT T id (some (sp.put p x))) := h.to htri
  refine ⟨Runs.cons h ⟨h.opn, h.many, .inl rfl, i64_small ⟨?_, ?_⟩, i64_small ⟨?_, ?_⟩, ?_, ?_, fun _ => ?_⟩ ?_ k, hl⟩
  · show 0 ≤ id; omega
  · show id ≤ 2000; omega
  · exact hp.1
  · show p ≤ 2000; omega
  · show x.length < _; omega
  · show WfT (treeOf T (putCh id p x)).2
    rw [show treeOf T (putCh id p x) = putT T id p (bs x) from rfl, hpt]
    exact htri.wf
  · rw [show treeOf T (putCh id p x) = putT T id p (bs x) from rfl, hpt]
    exact fit_ok h htri
  · show chStep M T (putCh id p x) = _
    rw [show chStep M T (putCh id p x) = mPut M T id p (bs x) from rfl, mPut, if_neg (by rw [h.size, bs_size]; omega), if_neg (by rw [mayE, hid]; simp [hs]), hpt]
    exact mStep_ok h h8
theorem Runs.make {pg : Nat} {M M' : Md} {T : Tree} (h : Live pg M T) (h8 : M.many < 8) {id : Int} {n : Nat} (hid : T id = none) (hk : 1 ≤ id ∧ id ≤ 3) (hn : 1 ≤ n ∧ n ≤ 1024) (hq : n ≤ if id = 3 then 4 else pg) {l : List Ch} (k : Runs (M.to (upT T id (some ⟨n, false, noPages⟩))) l M') :
    Runs M (makeCh id n :: l) M' ∧ Live pg (M.to (upT T id (some ⟨n, false, noPages⟩))) (upT T id (some ⟨n, false, noPages⟩)) := by
  have hdt : doT T (makeCh id n).r = (0, upT T id (some ⟨n, false, noPages⟩)) := by
    show doT T ⟨4, id, 0, 0, 0, n⟩ = _
    simp only [doT, hid, if_true]
  have htri : Tri pg (upT T id (some ⟨n, false, noPages⟩)) := h.tri.make hk hn.2 hq
  have hmay : (makeCh id n).r.may = true := by
    show Rc.may ⟨4, id, 0, 0, 0, n⟩ = true
    have h1 : decide (0 ≤ id) = true := decide_eq_true (by omega)
    have h2 : decide (id ≤ 15) = true := decide_eq_true (by omega)
    have h3 : decide ((0 : Int) ≤ (n : Int)) = true := decide_eq_true (by omega)
    have h4 : decide ((n : Int) ≤ 1024) = true := decide_eq_true (by omega)
    have h5 : decide (1 ≤ id) = true := decide_eq_true (by omega)
    have h6 : decide ((n : Int) < 1) = false := decide_eq_false (by omega)
    simp [Rc.may, fieldsOf, inAll, Rc.get, Rc.bad, Rc.spaces, zeroAll, Rc.zero, h1, h2, h4, h5, h6]
  have hl := h.to htri
  refine ⟨Runs.cons h ⟨h.opn, h.many, .inr (.inr (.inl rfl)), i64_small ⟨?_, ?_⟩, i64_small ⟨?_, ?_⟩, Nat.zero_lt_of_lt (show 0 < 4294967296 by decide), ?_, fun _ => ?_⟩ ?_ k, hl⟩
  · show 0 ≤ id; omega
  · show id ≤ 2000; omega
  · exact Int.le_refl 0
  · show (0 : Int) ≤ 2000; decide
  · show WfT (treeOf T (makeCh id n)).2
    rw [show treeOf T (makeCh id n) = doT T (makeCh id n).r from rfl, hdt]
    exact htri.wf
  · rw [show treeOf T (makeCh id n) = doT T (makeCh id n).r from rfl, hdt]
    exact fit_ok h htri
  · rw [show chStep M T (makeCh id n) = if (makeCh id n).r.may then mStep M (doT T (makeCh id n).r) else (1, M) from rfl, hmay, if_pos rfl, hdt]
    exact mStep_ok h h8
theorem Runs.drop {pg : Nat} {M M' : Md} {T : Tree} (h : Live pg M T) (h8 : M.many < 8) {id : Int} {sp : Sp} (hid : T id = some sp) {l : List Ch} (k : Runs (M.to (upT T id none)) l M') :
    Runs M (dropCh id :: l) M' ∧ Live pg (M.to (upT T id none)) (upT T id none) := by
  have hw := h.tri.wf id sp hid
  have hdt : doT T (dropCh id).r = (0, upT T id none) := by
    show doT T ⟨5, id, 0, 0, 0, 0⟩ = _
    simp only [doT, hid]
    rfl
  have htri : Tri pg (upT T id none) := h.tri.drop id
  have hmay : (dropCh id).r.may = true := by
    show Rc.may ⟨5, id, 0, 0, 0, 0⟩ = true
    have h1 : decide (0 ≤ id) = true := decide_eq_true (by omega)
    have h2 : decide (id ≤ 15) = true := decide_eq_true (by omega)
    have h5 : decide (1 ≤ id) = true := decide_eq_true (by omega)
    simp [Rc.may, fieldsOf, inAll, Rc.get, Rc.bad, Rc.spaces, zeroAll, Rc.zero, h1, h2, h5]
  have hl := h.to htri
  refine ⟨Runs.cons h ⟨h.opn, h.many, .inr (.inr (.inr rfl)), i64_small ⟨?_, ?_⟩, i64_small ⟨?_, ?_⟩, Nat.zero_lt_of_lt (show 0 < 4294967296 by decide), ?_, fun _ => ?_⟩ ?_ k, hl⟩
  · show 0 ≤ id; omega
  · show id ≤ 2000; omega
  · exact Int.le_refl 0
  · show (0 : Int) ≤ 2000; decide
  · show WfT (treeOf T (dropCh id)).2
    rw [show treeOf T (dropCh id) = doT T (dropCh id).r from rfl, hdt]
    exact htri.wf
  · rw [show treeOf T (dropCh id) = doT T (dropCh id).r from rfl, hdt]
    exact fit_ok h htri
  · rw [show chStep M T (dropCh id) = if (dropCh id).r.may then mStep M (doT T (dropCh id).r) else (1, M) from rfl, hmay, if_pos rfl, hdt]
    exact mStep_ok h h8
def Sp.trim (sp : Sp) (p : Int) : Sp := { sp with pages := fun i => if i = p then none else sp.pages i }
theorem Runs.trim {pg : Nat} {M M' : Md} {T : Tree} (h : Live pg M T) (h8 : M.many < 8) {id p : Int} {sp : Sp} (hid : T id = some sp) (hs : sp.sl = false) (hp : (sp.pages p).isSome = true) {l : List Ch} (k : Runs (M.to (upT T id (some (sp.trim p)))) l M') :
    Runs M (trimCh id p :: l) M' ∧ Live pg (M.to (upT T id (some (sp.trim p)))) (upT T id (some (sp.trim p))) := by
  have hw := h.tri.wf id sp hid
  obtain ⟨s, hps⟩ := Option.isSome_iff_exists.1 hp
  have hpp := hw.2.2.2.2 p s hps
  have hdt : doT T (trimCh id p).r = (0, upT T id (some (sp.trim p))) := by
    show doT T ⟨2, id, p, 0, 0, 0⟩ = _
    simp only [doT, hid]
    rw [if_neg (by decide), if_neg (by decide), if_neg (by decide), if_neg (by decide), if_pos hp]
    rfl
  have htri : Tri pg (upT T id (some (sp.trim p))) := h.tri.up hid rfl (fun q s e => by
    by_cases e2 : q = p
    · subst e2; simp [Sp.trim] at e
    · exact hw.2.2.2.2 q s (by simpa [Sp.trim, e2] using e))
  have hmay : (trimCh id p).r.may = true := by
    show Rc.may ⟨2, id, p, 0, 0, 0⟩ = true
    have h1 : decide (0 ≤ id) = true := decide_eq_true (by omega)
    have h2 : decide (id ≤ 15) = true := decide_eq_true (by omega)
    have h3 : decide (0 ≤ p) = true := decide_eq_true (by omega)
    have h4 : decide (p ≤ 1023) = true := decide_eq_true (by omega)
    have h5 : decide (1 ≤ id) = true := decide_eq_true (by omega)
    simp [Rc.may, fieldsOf, inAll, Rc.get, Rc.bad, Rc.spaces, zeroAll, Rc.zero, h1, h2, h3, h4, h5]
  have hl := h.to htri
  refine ⟨Runs.cons h ⟨h.opn, h.many, .inr (.inl rfl), i64_small ⟨?_, ?_⟩, i64_small ⟨?_, ?_⟩, Nat.zero_lt_of_lt (show 0 < 4294967296 by decide), ?_, fun _ => ?_⟩ ?_ k, hl⟩
  · show 0 ≤ id; omega
  · show id ≤ 2000; omega
  · exact hpp.1
  · show p ≤ 2000; omega
  · show WfT (treeOf T (trimCh id p)).2
    rw [show treeOf T (trimCh id p) = doT T (trimCh id p).r from rfl, hdt]
    exact htri.wf
  · rw [show treeOf T (trimCh id p) = doT T (trimCh id p).r from rfl, hdt]
    exact fit_ok h htri
  · rw [show chStep M T (trimCh id p) = if (trimCh id p).r.may then (if mayE T id ≠ 0 then (mayE T id, M) else mStep M (doT T (trimCh id p).r)) else (1, M) from rfl, hmay, if_pos rfl, hdt, if_neg (by rw [mayE, hid]; simp [hs])]
    exact mStep_ok h h8
end Go.Proofs.YticnmogeknlmeaaGreatDoor.B
