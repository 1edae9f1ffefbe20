/- Helper: a plain picture of two slots: its cells, and what is done to it. No condition. -/
import Derived.Test.YticnmogeknlmeaaGreatDoorNZe
import Derived.Deep.MidRow
import Derived.Laws.CopyRow
namespace Go.Proofs.YticnmogeknlmeaaGreatDoor.B
open Go.RowKit Go.Maps Go.Proofs.YticnmogeknlmeaaGreatDoorW.PrintWords Go.Proofs.YticnmogeknlmeaaGreatDoor.Later
set_option maxRecDepth 100000
set_option maxHeartbeats 4000000
/-- A plain picture of two slots. -/
structure Pl where
  pg : Nat
  b : Bt
  m : Bool → Man
  im : Bool → List UInt8
  p : Man
  got : List UInt8
  is : Bool
def manC (m : Man) : List Value := [.int .i64 (m.v : Int), .int .i64 (m.n : Int), .string (bs m.d)]
def Pl.L (P : Pl) : List Value := .int .i64 (P.pg : Int) :: (P.b.V.toList ++ (manC (P.m false) ++ (manC (P.m true) ++ (.string (bs (P.im false)) :: .string (bs (P.im true)) :: (manC P.p ++ [.string (bs P.got), .bool P.is])))))
def Pl.V (P : Pl) : Array Value := P.L.toArray
theorem size38 : (Tryz.prog.info? 38).map (·.size) = some 22 := by kernel_rfl
theorem size34 : (Tryz.prog.info? 34).map (·.size) = some 3 := by kernel_rfl
theorem size32 : (Tryz.prog.info? 32).map (·.size) = some 8 := by kernel_rfl
def bAc (b : Bt) : Int := if b.ac then 1 else 0
theorem Bt.V_lit (b : Bt) : ∃ b0 b2 b3 b4 b5 : Int, ∃ b1 b6 b7 : Bool, b.V = #[.int .i64 b0, .bool b1, .int .i64 b2, .int .i64 b3, .int .i64 b4, .int .i64 b5, .bool b6, .bool b7] ∧ b0 = bAc b := Bt.V8 b
theorem Pl.n (P : Pl) : P.V.size = 22 := by
  obtain ⟨b0, b2, b3, b4, b5, b1, b6, b7, h, _⟩ := P.b.V_lit
  unfold Pl.V Pl.L
  rw [h]
  rfl
theorem Pl.i (P : Pl) : (Tryz.prog.info? 38).map (·.size) = some P.V.size := by rw [size38, P.n]
theorem Pl.o (P : Pl) : P.V.all (·.oneCell') = true := by
  obtain ⟨b0, b2, b3, b4, b5, b1, b6, b7, h, _⟩ := P.b.V_lit
  unfold Pl.V Pl.L
  rw [h]
  simp [Value.oneCell', manC]
def sI (s : Bool) : Nat := if s then 1 else 0
theorem Pl.c0 (P : Pl) : P.V[0]? = some (.int .i64 (P.pg : Int)) := rfl
theorem Pl.c1 (P : Pl) : P.V[1]? = some (.int .i64 (bAc P.b)) := by
  obtain ⟨b0, b2, b3, b4, b5, b1, b6, b7, h, e⟩ := P.b.V_lit
  unfold Pl.V Pl.L
  rw [h, ← e]
  rfl
theorem Pl.cell (P : Pl) (i : Nat) (v : Value) (h : ∀ b0 b2 b3 b4 b5 : Int, ∀ b1 b6 b7 : Bool, (Value.int .i64 (P.pg : Int) :: .int .i64 b0 :: .bool b1 :: .int .i64 b2 :: .int .i64 b3 :: .int .i64 b4 :: .int .i64 b5 :: .bool b6 :: .bool b7 :: (manC (P.m false) ++ (manC (P.m true) ++ (.string (bs (P.im false)) :: .string (bs (P.im true)) :: (manC P.p ++ [.string (bs P.got), .bool P.is])))))[i]? = some v) : P.V[i]? = some v := by
  obtain ⟨b0, b2, b3, b4, b5, b1, b6, b7, hb, e⟩ := P.b.V_lit
  unfold Pl.V Pl.L
  rw [hb]
  exact (List.getElem?_toArray).trans (h b0 b2 b3 b4 b5 b1 b6 b7)
theorem Pl.cm (P : Pl) (s : Bool) : P.V[9 + 3 * sI s]? = some (.int .i64 ((P.m s).v : Int)) := P.cell _ _ (fun _ _ _ _ _ _ _ _ => by cases s <;> rfl)
theorem Pl.ci (P : Pl) (s : Bool) : P.V[15 + sI s]? = some (.string (bs (P.im s))) := P.cell _ _ (fun _ _ _ _ _ _ _ _ => by cases s <;> rfl)
theorem Pl.c18 (P : Pl) : P.V[18]? = some (.int .i64 (P.p.n : Int)) := P.cell _ _ (fun _ _ _ _ _ _ _ _ => rfl)
theorem Pl.c19 (P : Pl) : P.V[19]? = some (.string (bs P.p.d)) := P.cell _ _ (fun _ _ _ _ _ _ _ _ => rfl)
theorem Pl.c20 (P : Pl) : P.V[20]? = some (.string (bs P.got)) := P.cell _ _ (fun _ _ _ _ _ _ _ _ => rfl)
theorem Pl.c21 (P : Pl) : P.V[21]? = some (.bool P.is) := P.cell _ _ (fun _ _ _ _ _ _ _ _ => rfl)
/-- What is stored, where it lies. -/
theorem Pl.set_i (P : Pl) (s : Bool) (l : List UInt8) : P.V.setIfInBounds (15 + sI s) (.string (bs l)) = ({ P with im := setB P.im s l } : Pl).V := by
  obtain ⟨b0, b2, b3, b4, b5, b1, b6, b7, hb, e⟩ := P.b.V_lit
  unfold Pl.V Pl.L
  rw [hb]
  cases s <;> rfl
theorem Pl.set_got (P : Pl) (l : List UInt8) : P.V.setIfInBounds 20 (.string (bs l)) = ({ P with got := l } : Pl).V := by
  obtain ⟨b0, b2, b3, b4, b5, b1, b6, b7, hb, e⟩ := P.b.V_lit
  unfold Pl.V Pl.L
  rw [hb]
  rfl
theorem Pl.set_is (P : Pl) (v : Bool) : P.V.setIfInBounds 21 (.bool v) = ({ P with is := v } : Pl).V := by
  obtain ⟨b0, b2, b3, b4, b5, b1, b6, b7, hb, e⟩ := P.b.V_lit
  unfold Pl.V Pl.L
  rw [hb]
  rfl
/-- A row put over a row's middle. -/
def overA (A : Array Value) (o : Nat) (vs : List Value) : Array Value := (A.toList.take o ++ vs ++ A.toList.drop (o + vs.length)).toArray
theorem Pl.set_b (P : Pl) (b : Bt) : overA P.V 1 b.V.toList = ({ P with b := b } : Pl).V := by
  obtain ⟨b0, b2, b3, b4, b5, b1, b6, b7, hb, e⟩ := P.b.V_lit
  obtain ⟨c0, c2, c3, c4, c5, c1, c6, c7, hc, e'⟩ := b.V_lit
  unfold overA Pl.V Pl.L
  show (List.take 1 _ ++ b.V.toList ++ List.drop (1 + b.V.toList.length) _).toArray = (_ :: (b.V.toList ++ _)).toArray
  rw [hb, hc]
  rfl
theorem Pl.set_p (P : Pl) (m : Man) : overA P.V 17 (manC m) = ({ P with p := m } : Pl).V := by
  obtain ⟨b0, b2, b3, b4, b5, b1, b6, b7, hb, e⟩ := P.b.V_lit
  unfold overA Pl.V Pl.L
  rw [hb]
  rfl
theorem Pl.set_m (P : Pl) (s : Bool) (m : Man) : overA P.V (9 + 3 * sI s) (manC m) = ({ P with m := setB P.m s m } : Pl).V := by
  obtain ⟨b0, b2, b3, b4, b5, b1, b6, b7, hb, e⟩ := P.b.V_lit
  unfold overA Pl.V Pl.L
  rw [hb]
  cases s <;> rfl
/-- A row out of a row's middle. -/
theorem Pl.at_p (P : Pl) (j : Nat) (v : Value) (h : (manC P.p)[j]? = some v) : P.V[17 + j]? = some v := P.cell _ _ (fun _ _ _ _ _ _ _ _ => by
  have : j = 0 ∨ j = 1 ∨ j = 2 := by have := (List.getElem?_eq_some_iff.1 h).1; simp [manC] at this; omega
  rcases this with rfl | rfl | rfl <;> exact h)
theorem Pl.at_b (P : Pl) (j : Nat) (v : Value) (h : P.b.V.toList[j]? = some v) : P.V[1 + j]? = some v := by
  obtain ⟨b0, b2, b3, b4, b5, b1, b6, b7, hb, e⟩ := P.b.V_lit
  unfold Pl.V Pl.L
  rw [hb] at h ⊢
  have hj : j < 8 := by have := (List.getElem?_eq_some_iff.1 h).1; simpa using this
  rw [Nat.add_comm, List.getElem?_toArray, List.getElem?_cons_succ, List.getElem?_append_left (by simpa using hj)]
  exact h
section
variable {P : Program}
theorem Blk.rangeOf {w : World} {g : Nat} {A : Array Value} {t : TypeId} (h : Blk w g A t) (o : Nat) (cs : List Value) (hc : ∀ j v, cs[j]? = some v → A[o + j]? = some v) : w.rangeAt g o cs := fun j v hv => by
  rw [h.cell]
  exact hc j v hv
theorem wpList_load_blk {ops : Array Oper} {rest : List Oper} {op : Oper} {a : Act} {w : World} {Q : Exit → Act → World → Prop} (hgd : op.guard = none) (ty : TypeId) (x : Operand) (ho : op.op = .load ty x)
    (g o : Nat) (hx : a.eval x = .pointer (some ⟨g, o, none⟩)) (A cs : Array Value) (t : TypeId) (d : TypeDesc) (hg : Blk w g A t) (hc : ∀ j v, cs.toList[j]? = some v → A[o + j]? = some v)
    (hu : P.underlying ty = some d) (hd : d.isRow = true) (hi : (P.info? ty).map (·.size) = some cs.size)
    (h : wpList P ops Q rest (a.put op.dst (.agg cs)) w) : wpList P ops Q (op :: rest) a w :=
  wpList_load_mid hgd ty x ho g o hx cs.toList d (hg.rangeOf o _ hc) hu hd (by simpa using hi) (by simpa using h)
theorem wp_store_blk {o : Oper} {a : Act} {w : World} {K : Act → World → Prop} {Q : Exit → Act → World → Prop} (ty : TypeId) (x y : Operand) (ho : o.op = .store ty x y)
    (g off : Nat) (cells : Array Value) (hx : a.eval x = .pointer (some ⟨g, off, none⟩)) (hy : a.eval y = .agg cells)
    (t : TypeId) (old : Array Value) (hg : Blk w g old t) (hi : (P.info? ty).map (·.size) = some cells.size)
    (hold : off + cells.size ≤ old.size) (h1 : cells.all (·.oneCell') = true)
    (h : K (a.put o.dst undef) (w.setRow g (overA old off cells.toList))) : o.wp P a w K Q := by
  have := run_storeCells_at (P := P) g off t cells.toList 0 old w hg (by simp; omega) (fun v hv => (Array.all_eq_true_iff_forall_mem.1 h1) v (by simpa using hv))
  simp only [Nat.add_zero] at this
  unfold Oper.wp execOp
  cases hq : P.info? ty with
  | none => simp [hq] at hi
  | some i =>
    have hs : cells.size = i.size := by simp [hq] at hi; omega
    have hst : (storeVar ty ⟨g, off, none⟩ (.agg cells)).run P w = .ok () (w.setRow g (overA old off cells.toList)) := by
      simp [storeVar, sizeOf, typeInfo, hq, Value.cells, hs, this, overA]
    simp only [ho, hx, hy, Instr.storeAt, Instr.sureAddr, Sem.run_bind, Sem.run_pure, Result.andThen_ok, hst]
    exact h
theorem wpList_store_blk {ops : Array Oper} {rest : List Oper} {o : Oper} {a : Act} {w : World} {Q : Exit → Act → World → Prop} (hgd : o.guard = none) (ty : TypeId) (x y : Operand) (ho : o.op = .store ty x y)
    (g off : Nat) (cells : Array Value) (hx : a.eval x = .pointer (some ⟨g, off, none⟩)) (hy : a.eval y = .agg cells)
    (t : TypeId) (old : Array Value) (hg : Blk w g old t) (hi : (P.info? ty).map (·.size) = some cells.size)
    (hold : off + cells.size ≤ old.size) (h1 : cells.all (·.oneCell') = true)
    (h : wpList P ops Q rest (a.put o.dst undef) (w.setRow g (overA old off cells.toList))) : wpList P ops Q (o :: rest) a w :=
  wpList_plain hgd fun _ hK => wp_store_blk ty x y ho g off cells hx hy t old hg hi hold h1 (hK _ _ h)
end
end Go.Proofs.YticnmogeknlmeaaGreatDoor.B
