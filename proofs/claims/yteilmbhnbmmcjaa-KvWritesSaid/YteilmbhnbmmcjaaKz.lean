/- Helper: rows of pairs by their cells; a pair set into a row; walked. a pair set into a row without room; walked. a pair set into a row, or let go; walked. an act of Set on a row, of Drop on a row; walked. a pair let go from a row; walked. an act of Drop on a row; both acts as one; walked. No condition. -/
import Derived.Test.YteilmbhnbmmcjaaKm
import Derived.Lib.AppendZerosOnto
import Derived.Lib.Overlaps
import Derived.Laws.Externs
import Derived.Deep.RegionLaw
import Derived.Test.YteilmbhnbmmcjaaKs
namespace Go.Proofs.Yteilmbhnbmmcjaa.B
open Go.RowKit Go.Proofs.YteilmbhnbmmcjaaW.PrintWords Go.Proofs.Yteilmbhnbmmcjaa.Later
set_option maxRecDepth 100000
set_option maxHeartbeats 3200000
def encQ (x : Pr) : List Value := [.string (bs x.k), .string (bs x.v)]
def cellsP (L : List Pr) : List Value := L.flatMap encQ
theorem cellsP_cons (x : Pr) (L : List Pr) : cellsP (x :: L) = .string (bs x.k) :: .string (bs x.v) :: cellsP L := rfl
theorem cellsP_len : ∀ L : List Pr, (cellsP L).length = L.length * 2
  | [] => rfl
  | x :: L => by rw [cellsP_cons]; simp [cellsP_len L]; omega
theorem cellsP_app (A B : List Pr) : cellsP (A ++ B) = cellsP A ++ cellsP B := by simp [cellsP]
theorem cellsP_take : ∀ (L : List Pr) (n : Nat), (cellsP L).take (n * 2) = cellsP (L.take n)
  | [], n => by simp [cellsP]
  | x :: L, 0 => by simp [cellsP]
  | x :: L, n + 1 => by
    rw [cellsP_cons, show (n + 1) * 2 = n * 2 + 2 by omega, List.take_succ_cons, List.take_succ_cons, cellsP_take L n, List.take_succ_cons, cellsP_cons]
theorem cellsP_drop : ∀ (L : List Pr) (n : Nat), (cellsP L).drop (n * 2) = cellsP (L.drop n)
  | [], n => by simp [cellsP]
  | x :: L, 0 => by simp
  | x :: L, n + 1 => by
    rw [cellsP_cons, show (n + 1) * 2 = n * 2 + 2 by omega, List.drop_succ_cons, List.drop_succ_cons, cellsP_drop L n, List.drop_succ_cons]
theorem cellsP_one : ∀ (L : List Pr) (v : Value), v ∈ cellsP L → v.oneCell' = true
  | [], _, h => by simp [cellsP] at h
  | x :: L, v, h => by
    rw [cellsP_cons] at h
    rcases List.mem_cons.1 h with rfl | h
    · rfl
    · rcases List.mem_cons.1 h with rfl | h
      · rfl
      · exact cellsP_one L v h
theorem reps_cells : ∀ (L : List Pr) (cs : List Value) {w : World} {base : Nat} {ok : Nat → Prop}, Reps (prK.M w base ok) 2 L cs → cs = cellsP L
  | [], cs, _, _, _, h => by
    have := h.1
    simp at this
    subst this; rfl
  | x :: L, cs, w, base, ok, h => by
    have h0 := h.2 0 x rfl
    have hk := prK_open (prK.K_of_M h0)
    simp only [Nat.zero_mul, List.drop_zero] at hk
    have ht : Reps (prK.M w base ok) 2 L (cs.drop 2) := ⟨by rw [List.length_drop, h.1]; simp; omega, fun j p hj => by
      have := h.2 (j + 1) p hj
      rwa [show (j + 1) * 2 = 2 + j * 2 by omega, ← List.drop_drop] at this⟩
    have := reps_cells L (cs.drop 2) ht
    rw [← List.take_append_drop 2 cs, hk, this]
    rfl
theorem cells_reps (L : List Pr) {w : World} {base : Nat} {ok : Nat → Prop} : Reps (prK.M w base ok) 2 L (cellsP L) := by
  refine ⟨cellsP_len L, fun j p hj => ?_⟩
  rw [cellsP_drop]
  obtain ⟨hj', rfl⟩ := List.getElem?_eq_some_iff.1 hj
  rw [List.drop_eq_getElem_cons hj', cellsP_cons]
  exact prK_mkM _ _ _ _
theorem R_of {w : World} {base g c : Nat} {cur : Array Value} {L : List Pr} (hb : Blk w g cur 63) (hbase : base ≤ g) (hs : cur.size = c * 2) (hn : L.length ≤ c) (hc : c ≤ maxLen) (ht : cur.toList.take (L.length * 2) = cellsP L) :
    prK.R 63 w base (fun _ => True) (.slice (some ⟨g, 0, none⟩) L.length c) L :=
  ⟨fun _ _ => trivial, cellsP L, ⟨cellsP_len L, .inr ⟨g, c, cur, rfl, hbase, hb, hn, hc, hs, ht⟩⟩, cells_reps L⟩
theorem R_cells {w : World} {base : Nat} {v : Value} {L : List Pr} (h : prK.R 63 w base (fun _ => True) v L) (h0 : 0 < L.length) :
    ∃ g c cur, v = .slice (some ⟨g, 0, none⟩) L.length c ∧ base ≤ g ∧ Blk w g cur 63 ∧ L.length ≤ c ∧ c ≤ maxLen ∧ cur.size = c * 2 ∧ cur.toList.take (L.length * 2) = cellsP L := by
  obtain ⟨_, inner, ⟨_, ho⟩, hr⟩ := h
  have := reps_cells L inner hr
  subst this
  rcases ho with ⟨_, h2⟩ | ⟨g, c, cur, e, h1, h2, h3, h4, h5, h6⟩
  · omega
  · exact ⟨g, c, cur, e, h1, h2, h3, h4, h5, h6⟩
theorem size63 : (Try.prog.info? 63).map (·.size) = some 2 := by kernel_rfl
theorem run_copyP (w : World) (ty : TypeId) (g o dLen dCap : Nat) (a : Addr) (sLen sCap : Nat) (cs : List Value) (cur : Array Value) (hb : Blk w g cur 63)
    (hn : cs.length = Nat.min sLen dLen * 2) (hsrc : ∀ j v, cs[j]? = some v → w.cell? (a.add j) = some v) (hfit : o + cs.length ≤ cur.size) (h1 : ∀ v ∈ cs, v.oneCell' = true) :
    (Builtin.copy_ #[58, 58] ty #[.slice (some ⟨g, o, none⟩) dLen dCap, .slice (some a) sLen sCap]).run Try.prog w = .ok (goInt (Nat.min sLen dLen)) (w.setCells g o cs) := by
  have hl := run_loadCells_list (P := Try.prog) w a cs hsrc
  have hst := run_storeCells_cells (P := Try.prog) g o cs 0 w (fun j hj => by rw [hb.cell]; simp; omega) (fun j _ => hb.free _) h1
  cases hq : Try.prog.info? 63 with
  | none => have := size63; rw [hq] at this; cases this
  | some i =>
    have hi : i.size = 2 := by have := size63; rw [hq] at this; simpa using this
    simp [Builtin.copy_, run_underlying Try.underlying58, Builtin.lenOf, Builtin.firstCells, sizeOf, typeInfo, hq, hi, ← hn, hl, hst]
theorem wp_copyP (w : World) {o : Oper} {a : Act} {K : Act → World → Prop} {Q : Exit → Act → World → Prop} (d s : Operand) (t t' : TypeId)
    (ho : o.op = .call { callee := .builtin .copy, args := #[d, s], argTypes := #[t, t'] }) (v u : Value) (hd : a.eval d = v) (hs : a.eval s = u) {v' : Value} {w' : World}
    (hr : (Builtin.copy_ #[t, t'] o.type #[v, u]).run Try.prog w = .ok v' w') (h : K (a.put o.dst v') w') : o.wp Try.prog a w K Q := by
  unfold Oper.wp execOp
  simp only [ho, resolve, invoke, builtin, Sem.run_bind, Sem.run_pure, Result.andThen_ok, List.map_toArray, List.map_cons, List.map_nil, hd, hs, hr]
  exact h
theorem wpList_copyP (w : World) {ops : Array Oper} {rest : List Oper} {o : Oper} {a : Act} {Q : Exit → Act → World → Prop} (hgd : o.guard = none) (d s : Operand) (t t' : TypeId)
    (ho : o.op = .call { callee := .builtin .copy, args := #[d, s], argTypes := #[t, t'] }) (v u : Value) (hd : a.eval d = v) (hs : a.eval s = u) {v' : Value} {w' : World}
    (hr : (Builtin.copy_ #[t, t'] o.type #[v, u]).run Try.prog w = .ok v' w') (h : wpList Try.prog ops Q rest (a.put o.dst v') w') : wpList Try.prog ops Q (o :: rest) a w :=
  wpList_plain hgd fun _ hK => wp_copyP w d s t t' ho v u hd hs hr (hK _ _ h)
theorem step_copyP {ops : Array Oper} {o : Oper} {a : Act} {w : World} {K : Act → World → Prop} {Q : Exit → Act → World → Prop} {E : Prop}
    (hg : o.guard = none) (d x : Operand) (dT sT : TypeId) (hop : o.op = Op.call { callee := Callee.builtin Builtin.copy, args := #[d, x], argTypes := #[dT, sT] })
    (v u : Value) (hd : a.eval d = v) (hx : a.eval x = u) {v' : Value} {w' : World} (hr : (Builtin.copy_ #[dT, sT] o.type #[v, u]).run Try.prog w = .ok v' w') (hK : K (a.put o.dst v') w') :
    if Region.wanted o (yielded ops a.tmps) = true then Oper.wp Try.prog o a w K Q else E := by
  rw [if_pos (by simp [Region.wanted, hg])]
  exact wp_copyP w d x dT sT hop v u hd hx hr hK
/-- Cells stored: the block, and that all else is as it was. -/
theorem setCells_blk {w : World} {g t : Nat} {cur : Array Value} (h : Blk w g cur t) (o : Nat) (vs : List Value) (hf : o + vs.length ≤ cur.size) :
    ∃ cur', Blk (w.setCells g o vs) g cur' t ∧ cur'.size = cur.size ∧ cur'.toList = cur.toList.take o ++ vs ++ cur.toList.drop (o + vs.length) ∧ Mut (only g) w (w.setCells g o vs) := by
  obtain ⟨cur', h1, h2, h3⟩ := setCells_row vs o w cur h hf
  obtain ⟨s1, s2, s3, s4⟩ := setCells_same g vs o w
  exact ⟨cur', h1, h2, h3, ⟨s1, s2, s3, by rw [s4]; exact Nat.le_refl _, fun i _ hs => setCells_far vs o i hs⟩⟩
theorem Blk.shape {w : World} {g t : Nat} {cs : Array Value} (h : Blk w g cs t) : w.shape? g = some (t, cs.size) := by
  have h' : w.heap[g]? = some (.cells cs t (0, 0)) := h
  simp [World.shape?, h']
theorem apart_any (w : World) (vb g o la ca lb cb : Nat) (ca' cb' : Array Value) (ha : Blk w vb ca' 63) (hb : Blk w g cb' 63) (hne : vb ≠ g) (h0 : cb'.size ≠ 0) :
    (callFunc 90 #[.slice (some ⟨vb, 0, none⟩) la ca, .slice (some ⟨g, o, none⟩) lb cb]).run Try.prog w = .ok (.value (.bool false)) w := by
  rw [run_callFunc_extern Try.func90 (by kernel_rfl) (by kernel_rfl) (by kernel_rfl) (e := Extern.SlicesOverlaps.overlaps #[58, 58] #[4]) (by kernel_rfl),
    Lib.run_overlaps_apart w 58 4 63 Try.underlying58 2 Try.sizeOf63 ⟨vb, 0, none⟩ ⟨g, o, none⟩ la ca lb cb hne 63 63 ca'.size cb'.size ha.shape hb.shape h0 (ha.free 0) (ha.free _)]
  rfl
theorem ins_cells {P : List Pr} {n i : Nat} {x : Pr} {c0 c1 c2 : List Value} (hn : n = P.length) (hi : i < n) (ht : c0.take (n * 2) = cellsP P)
    (h1 : c1 = c0.take ((i + 1) * 2) ++ cellsP (P.drop i) ++ c0.drop ((i + 1) * 2 + (cellsP (P.drop i)).length)) (h2 : c2 = c1.take (i * 2) ++ encQ x ++ c1.drop (i * 2 + (encQ x).length)) :
    c2.take ((P.take i ++ x :: P.drop i).length * 2) = cellsP (P.take i ++ x :: P.drop i) := by
  have hl : n * 2 ≤ c0.length := by
    have := congrArg List.length ht
    rw [List.length_take, cellsP_len, ← hn] at this
    omega
  have e0 : c0.take (i * 2) = cellsP (P.take i) := by rw [← cellsP_take, ← ht, List.take_take, Nat.min_eq_left (by omega)]
  have e1 : c1.take (i * 2) = cellsP (P.take i) := by
    rw [h1, List.append_assoc, List.take_append_of_le_length (by rw [List.length_take]; omega), List.take_take, Nat.min_eq_left (by omega), e0]
  have e2 : c1.drop (i * 2 + 2) = cellsP (P.drop i) ++ c0.drop ((i + 1) * 2 + (cellsP (P.drop i)).length) := by
    rw [h1, List.append_assoc, List.drop_append, List.drop_eq_nil_of_le (by rw [List.length_take]; omega), List.length_take, show i * 2 + 2 - min ((i + 1) * 2) c0.length = 0 by omega]
    simp
  rw [h2, e1, show (encQ x).length = 2 from rfl, e2, cellsP_app, show cellsP (x :: P.drop i) = encQ x ++ cellsP (P.drop i) from rfl, ← List.append_assoc, ← List.append_assoc]
  refine List.take_left' ?_
  simp only [List.length_append, cellsP_len, List.length_take, List.length_drop, List.length_cons, show (encQ x).length = 2 from rfl]
  omega
theorem cur_at {cur : Array Value} {P : List Pr} {n : Nat} (ht : cur.toList.take (n * 2) = cellsP P) (hn : n = P.length) : ∀ (j : Nat) (v : Value), (cellsP P)[j]? = some v → cur[j]? = some v := fun j v hj => by
  have hl : j < n * 2 := by
    have := (List.getElem?_eq_some_iff.1 hj).1
    rw [cellsP_len, ← hn] at this; exact this
  rw [← ht, List.getElem?_take, if_pos hl, Array.getElem?_toList] at hj
  exact hj
theorem insert_room (P : List Pr) (hn : P.length ≤ 10000) (x : Pr) (i : Nat) (hi : i < P.length) (g c base : Nat) (cur : Array Value) (W : World) (hbase : base ≤ g) (hb : Blk W g cur 63) (hc : P.length < c) (hcm : c ≤ maxLen) (hcs : cur.size = c * 2) (ht : cur.toList.take (P.length * 2) = cellsP P) :
    Calls Try.prog 64 #[.slice (some ⟨g, 0, none⟩) P.length c, .int .i64 i, .slice (some ⟨W.heap.size, 0, none⟩) 1 1] (W.alloc (.cells #[.string (bs x.k), .string (bs x.v)] 63)) (ActPost base W (.slice (some ⟨g, 0, none⟩) P.length c) (P.take i ++ x :: P.drop i)) := by
  obtain ⟨n, hn'⟩ : ∃ n, n = P.length := ⟨_, rfl⟩
  rw [← hn'] at hn hi hc ht ⊢
  have hcm' : c ≤ 9223372036854775807 := by simpa only [maxLen] using hcm
  obtain ⟨vb, hvb⟩ : ∃ vb, vb = W.heap.size := ⟨_, rfl⟩
  obtain ⟨w2, hw2⟩ : ∃ w2, w2 = W.alloc (.cells #[.string (bs x.k), .string (bs x.v)] 63) := ⟨_, rfl⟩
  rw [← hw2, ← hvb]
  have hm2 : Below W.heap.size W w2 := by rw [hw2]; exact (Below.refl _ _).alloc (Nat.le_refl _) _
  have hb2 := hb.below hm2
  have hv2 : Blk w2 vb #[.string (bs x.k), .string (bs x.v)] 63 := by rw [hw2, hvb]; exact Blk.new W _ 63
  have hne : vb ≠ g := by have := hb.lt; omega
  have Ht := Lib.hid ht
  have Hb := Lib.hid hb2
  have Hv := Lib.hid hv2
  have Hm := Lib.hid hm2
  have Hn := Lib.hid hn'
  have hov := apart_any w2 vb g ((i + 1) * 2) 1 1 (n - i) (c - (i + 1)) _ _ hv2 hb2 hne (by omega)
  clear ht hb hb2 hv2 hm2 hw2 hvb hn'
  have i0 : (0 : Int) ≤ (i : Int) := by omega
  have i1 : (i : Int) < (n : Int) := by omega
  have i2 : ¬ ((i : Int) = (n : Int)) := by omega
  have i3 : ¬ (c = i + 1) := by omega
  have i4 : ¬ (c = i) := by omega
  have i5 : (n : Int) + 1 ≤ (c : Int) := by omega
  have j0 : (0 : Int) ≤ (i : Int) + 1 := by omega
  have j1 : (i : Int) + 1 ≤ (n : Int) + 1 := by omega
  have jt : ((i : Int) + 1).toNat = i + 1 := by omega
  have j2 : (i : Int) ≤ (n : Int) + 1 := by omega
  have j3 : IntKind.i64.wrap ((i : Int) + 1) = (i : Int) + 1 := by rw [IntKind.wrap_i64]; omega
  go_enter Try.func64, Try.ntmps64
  have hmin : Nat.min (n + 1 - i) (n - i) = n - i := by simp only [Nat.min_def]; split <;> omega
  have hdl : (cellsP (P.drop i)).length = (n - i) * 2 := by rw [cellsP_len, List.length_drop, Hn.out]
  have hcu := cur_at Ht.out Hn.out
  have hcp1 : ∀ ty dc sc, (Builtin.copy_ #[58, 58] ty #[.slice (some ⟨g, (i + 1) * 2, none⟩) (n - i) dc, .slice (some ⟨g, i * 2, none⟩) (n + 1 - i) sc]).run Try.prog w2.drew = .ok (goInt (Nat.min (n + 1 - i) (n - i))) (w2.drew.setCells g ((i + 1) * 2) (cellsP (P.drop i))) := fun ty dc sc =>
    run_copyP w2.drew ty g ((i + 1) * 2) (n - i) dc ⟨g, i * 2, none⟩ (n + 1 - i) sc (cellsP (P.drop i)) cur (Hb.out) (by rw [hdl, hmin]) (fun j v hj => by
      rw [Addr.add_lit]
      show w2.cell? _ = _
      rw [Hb.out.cell]
      rw [← cellsP_drop, List.getElem?_drop] at hj
      exact hcu _ _ hj) (by rw [hdl, hcs]; omega) (fun v hv => cellsP_one _ v hv)
  obtain ⟨cur1, b1, s1, t1, m1⟩ := setCells_blk (w := w2.drew) (g := g) (t := 63) (cur := cur) Hb.out ((i + 1) * 2) (cellsP (P.drop i)) (by rw [hdl, hcs]; omega)
  have hv1 := (show Blk w2.drew vb #[Value.string (bs x.k), Value.string (bs x.v)] 63 from Hv.out).kept m1 hne
  obtain ⟨W1, hW1⟩ : ∃ W1, W1 = w2.drew.setCells g ((i + 1) * 2) (cellsP (P.drop i)) := ⟨_, rfl⟩
  rw [← hW1] at hcp1 b1 m1 hv1
  have hmin2 : Nat.min 1 (n + 1 - i) = 1 := by simp only [Nat.min_def]; split <;> omega
  have hcp2 : ∀ ty dc, (Builtin.copy_ #[58, 58] ty #[.slice (some ⟨g, i * 2, none⟩) (n + 1 - i) dc, .slice (some ⟨vb, 0, none⟩) 1 1]).run Try.prog W1 = .ok (goInt (Nat.min 1 (n + 1 - i))) (W1.setCells g (i * 2) (encQ x)) := fun ty dc =>
    run_copyP W1 ty g (i * 2) (n + 1 - i) dc ⟨vb, 0, none⟩ 1 1 (encQ x) cur1 b1 (by rw [hmin2]; rfl) (fun j v hj => by
      rw [Addr.add_lit, hv1.cell]
      rcases j with _ | _ | j
      · exact hj
      · exact hj
      · simp [encQ] at hj) (by rw [s1, hcs]; show i * 2 + 2 ≤ _; omega) (fun v hv => by simp [encQ] at hv; rcases hv with rfl | rfl <;> rfl)
  obtain ⟨cur2, b2, s2, t2, m2⟩ := setCells_blk (w := W1) (g := g) (t := 63) (cur := cur1) b1 (i * 2) (encQ x) (by rw [s1, hcs]; show i * 2 + 2 ≤ _; omega)
  obtain ⟨W2, hW2⟩ : ∃ W2, W2 = W1.setCells g (i * 2) (encQ x) := ⟨_, rfl⟩
  rw [← hW2] at hcp2 b2 m2
  have hfin := ins_cells (x := x) Hn.out hi Ht.out t1 t2
  have hR : prK.R 63 W2 base (fun _ => True) (.slice (some ⟨g, 0, none⟩) (P.take i ++ x :: P.drop i).length c) (P.take i ++ x :: P.drop i) := R_of b2 hbase (by rw [s2, s1, hcs]) (by simp; have := Hn.out; omega) hcm hfin
  have hlen : (P.take i ++ x :: P.drop i).length = n + 1 := by simp; have := Hn.out; omega
  rw [hlen] at hR
  have HR := Lib.hid hR
  have HM := Lib.hid ((Mut.of_below (S := only g) Hm.out).trans (((Mut.refl (only g) w2).drew 1).trans (m1.trans m2)))
  have Hhv := Lib.hid hv1
  clear hR hfin b1 b2 t1 t2 m1 m2 hv1 hcu hW1 hW2 hlen
  go_wp2_with (fail)
  go_region_law (refine step_copyP rfl _ _ 58 58 rfl _ _ (by simp [Act.eval, Act.put]) (by simp [Act.eval, Act.put]) (hcp1 _ _ _) ?_)
  go_wp2_with (first
    | (at_builtin; refine wpList_copyP _ rfl _ _ 58 58 rfl _ _ rfl rfl (hcp2 _ _) ?_))
  go_ret
  exact ⟨_, rfl, HR.out, HM.out.mono (fun k _ hk => congrArg some (show g = k from hk.symm)), fun k hk => .inl hk⟩
end Go.Proofs.Yteilmbhnbmmcjaa.B
namespace Go.Proofs.Yteilmbhnbmmcjaa.B
open Go.RowKit Go.Proofs.YteilmbhnbmmcjaaW.PrintWords Go.Proofs.Yteilmbhnbmmcjaa.Later
set_option maxRecDepth 100000
set_option maxHeartbeats 3200000
theorem grow_cells {P : List Pr} {n i : Nat} {x : Pr} {c0 c1 c2 Z : List Value} (hn : n = P.length) (hi : i < n) (h0 : c0 = cellsP (P.take i) ++ Z)
    (h1 : c1 = c0.take (i * 2) ++ encQ x ++ c0.drop (i * 2 + (encQ x).length)) (h2 : c2 = c1.take ((i + 1) * 2) ++ cellsP (P.drop i) ++ c1.drop ((i + 1) * 2 + (cellsP (P.drop i)).length)) :
    c2.take ((P.take i ++ x :: P.drop i).length * 2) = cellsP (P.take i ++ x :: P.drop i) := by
  have hl : (cellsP (P.take i)).length = i * 2 := by rw [cellsP_len, List.length_take]; omega
  have e0 : c0.take (i * 2) = cellsP (P.take i) := by rw [h0]; exact List.take_left' hl
  have e1 : c1.take ((i + 1) * 2) = cellsP (P.take i) ++ encQ x := by
    rw [h1, e0]
    exact List.take_left' (by rw [List.length_append, hl]; show i * 2 + 2 = _; omega)
  rw [h2, e1, cellsP_app, show cellsP (x :: P.drop i) = encQ x ++ cellsP (P.drop i) from rfl, ← List.append_assoc]
  refine List.take_left' ?_
  simp only [List.length_append, cellsP_len, List.length_take, List.length_drop, List.length_cons, show (encQ x).length = 2 from rfl]
  omega
theorem insert_grow (P : List Pr) (hn : P.length ≤ 10000) (x : Pr) (i : Nat) (hi : i < P.length) (g base : Nat) (cur : Array Value) (W : World) (hbase : base ≤ W.heap.size) (hb : Blk W g cur 63) (hcs : cur.size = P.length * 2) (ht : cur.toList.take (P.length * 2) = cellsP P) :
    Calls Try.prog 64 #[.slice (some ⟨g, 0, none⟩) P.length P.length, .int .i64 i, .slice (some ⟨W.heap.size, 0, none⟩) 1 1] (W.alloc (.cells #[.string (bs x.k), .string (bs x.v)] 63)) (ActPost base W (.slice (some ⟨g, 0, none⟩) P.length P.length) (P.take i ++ x :: P.drop i)) := by
  obtain ⟨n, hn'⟩ : ∃ n, n = P.length := ⟨_, rfl⟩
  rw [← hn'] at hn hi hcs ht ⊢
  obtain ⟨vb, hvb⟩ : ∃ vb, vb = W.heap.size := ⟨_, rfl⟩
  obtain ⟨w2, hw2⟩ : ∃ w2, w2 = W.alloc (.cells #[.string (bs x.k), .string (bs x.v)] 63) := ⟨_, rfl⟩
  rw [← hw2, ← hvb]
  have hm2 : Below W.heap.size W w2 := by rw [hw2]; exact (Below.refl _ _).alloc (Nat.le_refl _) _
  have hb2 := hb.below hm2
  have hv2 : Blk w2 vb #[.string (bs x.k), .string (bs x.v)] 63 := by rw [hw2, hvb]; exact Blk.new W _ 63
  have hdl : (cellsP (P.drop i)).length = (n - i) * 2 := by rw [cellsP_len, List.length_drop, hn']
  have hcu := cur_at ht hn'
  obtain ⟨N, hN⟩ : ∃ N, N = w2.heap.size := ⟨_, rfl⟩
  obtain ⟨G, hG⟩ : ∃ G, G = grownCap w2 (n + 1) n 63 := ⟨_, rfl⟩
  obtain ⟨Z, hZ⟩ : ∃ Z : Array Value, Z = Builtin.zeroCells (Value.agg #[.string ⟨#[]⟩, .string ⟨#[]⟩]).cells (n + 1 - i) ++ Builtin.zeroCells (Value.agg #[.string ⟨#[]⟩, .string ⟨#[]⟩]).cells (G - (n + 1)) := ⟨_, rfl⟩
  obtain ⟨ROW, hROW⟩ : ∃ ROW : Array Value, ROW = (cellsP (P.take i)).toArray ++ Z := ⟨_, rfl⟩
  obtain ⟨i0, hi0, hzz⟩ := Option.map_eq_some_iff.1 info63
  simp only [Prod.mk.injEq] at hzz
  obtain ⟨hz0, hz1, hz2⟩ := hzz
  have hG1 : n + 1 ≤ G := by rw [hG]; exact grownCap_ge w2 _ _ _
  have hG2 : G ≤ maxLen := by rw [hG]; exact grownCap_le_maxLen w2 _ _ _ (by simp only [maxLen]; omega)
  have hG3 : G ≤ 9223372036854775807 := by simpa only [maxLen] using hG2
  have hZs : Z.size = (n + 1 - i) * 2 + (G - (n + 1)) * 2 := by rw [hZ, Array.size_append, size_zeroCells, size_zeroCells]; rfl
  have hZl : Z.toList.length = Z.size := by simp
  have hRs : ROW.size = G * 2 := by rw [hROW, Array.size_append, hZs]; simp [cellsP_len, List.length_take]; omega
  have hRl : ROW.toList = cellsP (P.take i) ++ Z.toList := by rw [hROW]; simp
  have hold : (Builtin.firstCells i0.size i (.slice (some ⟨g, 0, none⟩) i n)).run Try.prog w2.drew = .ok (cellsP (P.take i)).toArray w2.drew := by
    rw [hz1]
    refine run_firstCells_some w2.drew 2 i ⟨g, 0, none⟩ i n (cellsP (P.take i)) (by rw [cellsP_len, List.length_take]; omega) (fun j v hj => ?_)
    rw [Addr.add_lit, Nat.zero_add]
    show w2.cell? _ = _
    rw [hb2.cell]
    rw [← cellsP_take, List.getElem?_take] at hj
    split at hj
    · exact hcu _ _ hj
    · cases hj
  have hk1 : (n : Int) + 1 - (i : Int) = ((n + 1 - i : Nat) : Int) := by omega
  have hk2 : i + (n + 1 - i) = n + 1 := by omega
  obtain ⟨W1, hW1⟩ : ∃ W1, W1 = w2.drew.alloc (.cells ROW 63) := ⟨_, rfl⟩
  have hrz : ∀ ty, (Builtin.append_ #[58, 3] ty #[.slice (some ⟨g, 0, none⟩) i n, .int .i64 ((n : Int) + 1 - (i : Int))]).run Try.prog w2 = .ok (.slice (some ⟨N, 0, none⟩) (n + 1) G) W1 := fun ty => by
    have h := Lib.run_append_grow_zeros w2 58 3 ty 63 i0 _ .i64 .i64 Try.underlying58 Try.underlying3 hi0 hz0 (some ⟨g, 0, none⟩) i n (cellsP (P.take i)) hold (n + 1 - i) (by omega) (by omega) (by omega) (by omega) (by rw [hz2]; omega) (by rw [hz2, hk2]; exact growslice_fits (by omega) (by omega))
    rw [hk2, ← hG] at h
    rw [hk1, hW1, hN, hROW, hZ, ← Array.append_assoc]
    exact h
  have hw1 : Below w2.heap.size w2 W1 := by rw [hW1]; exact (below_drewN (Below.refl _ _) 1).alloc (Nat.le_refl _) _
  have hb1 : Blk W1 N ROW 63 := by rw [hW1, hN]; exact Blk.new w2.drew ROW 63
  have hg1 := hb2.below hw1
  have hv1 := hv2.below hw1
  have hgN : g ≠ N := by have := hb2.lt; omega
  have hvN : vb ≠ N := by have := hv2.lt; omega
  have hmin1 : Nat.min 1 (n + 1 - i) = 1 := by simp only [Nat.min_def]; split <;> omega
  have hcpA : ∀ ty dc, (Builtin.copy_ #[58, 58] ty #[.slice (some ⟨N, i * 2, none⟩) (n + 1 - i) dc, .slice (some ⟨vb, 0, none⟩) 1 1]).run Try.prog W1 = .ok (goInt (Nat.min 1 (n + 1 - i))) (W1.setCells N (i * 2) (encQ x)) := fun ty dc =>
    run_copyP W1 ty N (i * 2) (n + 1 - i) dc ⟨vb, 0, none⟩ 1 1 (encQ x) ROW hb1 (by rw [hmin1]; rfl) (fun j v hj => by
      rw [Addr.add_lit, hv1.cell]
      rcases j with _ | _ | j
      · exact hj
      · exact hj
      · simp [encQ] at hj) (by rw [hRs]; show i * 2 + 2 ≤ _; omega) (fun v hv => by simp [encQ] at hv; rcases hv with rfl | rfl <;> rfl)
  obtain ⟨cur1, c1, s1, t1, m1⟩ := setCells_blk (w := W1) (g := N) (t := 63) (cur := ROW) hb1 (i * 2) (encQ x) (by rw [hRs]; show i * 2 + 2 ≤ _; omega)
  obtain ⟨W2, hW2⟩ : ∃ W2, W2 = W1.setCells N (i * 2) (encQ x) := ⟨_, rfl⟩
  rw [← hW2] at hcpA c1 m1
  have hg2 := hg1.kept m1 hgN
  have hmin2 : Nat.min (n - i) (n - i) = n - i := Nat.min_self _
  have hcpB : ∀ ty dc sc, (Builtin.copy_ #[58, 58] ty #[.slice (some ⟨N, (i + 1) * 2, none⟩) (n - i) dc, .slice (some ⟨g, i * 2, none⟩) (n - i) sc]).run Try.prog W2.drew = .ok (goInt (Nat.min (n - i) (n - i))) (W2.drew.setCells N ((i + 1) * 2) (cellsP (P.drop i))) := fun ty dc sc =>
    run_copyP W2.drew ty N ((i + 1) * 2) (n - i) dc ⟨g, i * 2, none⟩ (n - i) sc (cellsP (P.drop i)) cur1 c1 (by rw [hdl, hmin2]) (fun j v hj => by
      rw [Addr.add_lit]
      show W2.cell? _ = _
      rw [hg2.cell]
      rw [← cellsP_drop, List.getElem?_drop] at hj
      exact hcu _ _ hj) (by rw [hdl, s1, hRs]; omega) (fun v hv => cellsP_one _ v hv)
  obtain ⟨cur2, c2, s2, t2, m2⟩ := setCells_blk (w := W2.drew) (g := N) (t := 63) (cur := cur1) c1 ((i + 1) * 2) (cellsP (P.drop i)) (by rw [hdl, s1, hRs]; omega)
  obtain ⟨W3, hW3⟩ : ∃ W3, W3 = W2.drew.setCells N ((i + 1) * 2) (cellsP (P.drop i)) := ⟨_, rfl⟩
  rw [← hW3] at hcpB c2 m2
  have hfin := grow_cells (x := x) hn' hi hRl t1 t2
  have hNb : W.heap.size ≤ N := by rw [hN]; exact hm2.size
  have hR : prK.R 63 W3 base (fun _ => True) (.slice (some ⟨N, 0, none⟩) (P.take i ++ x :: P.drop i).length G) (P.take i ++ x :: P.drop i) := R_of c2 (Nat.le_trans hbase hNb) (by rw [s2, s1, hRs]) (by simp; omega) hG2 hfin
  have hlen : (P.take i ++ x :: P.drop i).length = n + 1 := by simp; omega
  rw [hlen] at hR
  have hmm : Below W.heap.size W W3 := ((hm2.trans (hw1.mono hm2.size)).trans ((m1.trans (((Mut.refl (only N) W2).drew 1).trans m2)).below (Nat.le_trans hm2.size hw1.size) (fun k hk he => by have : k = N := he; omega)))
  have HR := Lib.hid hR
  have HM := Lib.hid hmm
  have HNb := Lib.hid hNb
  clear hR hmm hNb hfin c1 c2 t1 t2 m1 m2 hcu hW1 hW2 hW3 hlen hb1 hg1 hg2 hw1 hold hROW hZ hZs hZl hRs hRl hi0 hz0 hz1 hz2 ht hb hb2 hv2 hm2 hw2 hvb hn' hG hG2 hdl hmin1 hmin2 hN hk1 hk2 hv1 s1 s2 hcs
  have k0 : (0 : Int) ≤ (i : Int) := by omega
  have i1 : (i : Int) < (n : Int) := by omega
  have i2 : ¬ ((i : Int) = (n : Int)) := by omega
  have i3 : ¬ (n = i) := by omega
  have i5 : (n : Int) < (n : Int) + 1 := by omega
  have j0 : (0 : Int) ≤ (i : Int) + 1 := by omega
  have j1 : (i : Int) + 1 ≤ (n : Int) + 1 := by omega
  have jt : ((i : Int) + 1).toNat = i + 1 := by omega
  have j2 : (i : Int) ≤ (n : Int) + 1 := by omega
  have j3 : IntKind.i64.wrap ((i : Int) + 1) = (i : Int) + 1 := by rw [IntKind.wrap_i64]; omega
  have j4 : (i : Int) ≤ (n : Int) := by omega
  have g1 : ¬ (G = i) := by omega
  have g2 : ¬ (G = i + 1) := by omega
  go_enter Try.func64, Try.ntmps64
  go_wp2_with (first
    | (at_builtin; refine Lib.wpList_append_run _ rfl _ _ 58 3 rfl _ _ rfl rfl _ _ (hrz _) ?_)
    | (at_builtin; refine wpList_copyP _ rfl _ _ 58 58 rfl _ _ rfl rfl (hcpA _ _) ?_))
  go_region_law (refine step_copyP rfl _ _ 58 58 rfl _ _ (by simp [Act.eval, Act.put]) (by simp [Act.eval, Act.put]) (hcpB _ _ _) ?_)
  go_wp2
  go_ret
  exact ⟨_, rfl, HR.out, Mut.of_below HM.out, fun k hk => .inr (by have : N = k := Option.some.inj hk; rw [← this]; exact HNb.out)⟩
end Go.Proofs.Yteilmbhnbmmcjaa.B
namespace Go.Proofs.Yteilmbhnbmmcjaa.B
open Go.RowKit Go.Proofs.YteilmbhnbmmcjaaW.PrintWords Go.Proofs.Yteilmbhnbmmcjaa.Later
set_option maxRecDepth 100000
set_option maxHeartbeats 3200000
theorem R_blk {w : World} {base g n c : Nat} {L : List Pr} (h : prK.R 63 w base (fun _ => True) (.slice (some ⟨g, 0, none⟩) n c) L) :
    ∃ cur, base ≤ g ∧ Blk w g cur 63 ∧ n = L.length ∧ n ≤ c ∧ c ≤ maxLen ∧ cur.size = c * 2 ∧ cur.toList.take (n * 2) = cellsP L := by
  obtain ⟨_, inner, ⟨_, ho⟩, hr⟩ := h
  have := reps_cells L inner hr
  subst this
  rcases ho with ⟨h2, _⟩ | ⟨g', c', cur, e, h1, h2, h3, h4, h5, h6⟩
  · cases h2
  · injection e with e1 e2 e3
    injection e1 with e1
    injection e1 with e1
    subst e1 e2 e3
    exact ⟨cur, h1, h2, rfl, h3, h4, h5, h6⟩
/-- Whatever the place: a pair put into a row. -/
theorem insert_any (P : List Pr) (hn : P.length ≤ 10000) (x : Pr) (i : Nat) (hi : i ≤ P.length) (v : Value) (base : Nat) (W : World) (hb : base ≤ W.heap.size) (hR : prK.R 63 W base (fun _ => True) v P) :
    Calls Try.prog 64 #[v, .int .i64 i, .slice (some ⟨W.heap.size, 0, none⟩) 1 1] (W.alloc (.cells #[.string (bs x.k), .string (bs x.v)] 63)) (ActPost base W v (P.take i ++ x :: P.drop i)) := by
  rcases Nat.eq_or_lt_of_le hi with rfl | hlt
  · have := insert_end P hn x v base W hb hR
    rwa [List.take_length, List.drop_length]
  · obtain ⟨g, c, cur, rfl, h1, h2, h3, h4, h5, h6⟩ := R_cells hR (by omega)
    rcases Nat.eq_or_lt_of_le h3 with rfl | hlc
    · exact insert_grow P hn x i hlt g base cur W hb h2 h5 h6
    · exact insert_room P hn x i hlt g c base cur W h1 h2 hlc h4 h5 h6
end Go.Proofs.Yteilmbhnbmmcjaa.B
namespace Go.Proofs.Yteilmbhnbmmcjaa.B
open Go.RowKit Go.Proofs.YteilmbhnbmmcjaaW.PrintWords Go.Proofs.Yteilmbhnbmmcjaa.Later
set_option maxRecDepth 100000
set_option maxHeartbeats 3200000
theorem mut_grown {w w' : World} {v : Value} (hg : w.grownBy w' v.ownBlock) : Mut (fun k => v.ownBlock = some k) w w' := ⟨hg.os, hg.tape, hg.output, hg.size, fun i hi hs => hg.block i hi (fun e => hs e.symm)⟩
theorem hasKey_lt {l : List Pr} {key : List UInt8} {n : Nat} (h : hasKey l key n = true) : n < l.length := by simp [hasKey] at h; exact h.1
theorem set1_any (P : List Pr) (hn : P.length ≤ 10000) (hr : Rises P) (x : Pr) (v : Value) (base : Nat) (w : World) (hb : base ≤ w.heap.size) (hR : prK.R 63 w base (fun _ => True) v P) :
    Calls Try.prog 62 #[v, .agg #[.string (bs x.k), .string (bs x.v)]] w (ActPost base w v (set1 P x)) := by
  obtain ⟨A, c, rfl, hlc, hC⟩ := Kd.R_reads hR
  have hins := fun i hi W hb hR => insert_any P hn x i hi (.slice A P.length c) base W hb hR
  have hs1 := fun n hat hh => set1_ins hr (x := x) (n := n) hat hh
  have hs2 := fun n hat hh => set1_rep (P := P) (x := x) (n := n) hat hh
  obtain ⟨Y, hY⟩ : ∃ Y, Y = set1 P x := ⟨_, rfl⟩
  rw [← hY] at hs1 hs2 ⊢
  have hxx : (⟨x.k, x.v⟩ : Pr) = x := rfl
  obtain ⟨k, hk⟩ : ∃ k, k = x.k := ⟨_, rfl⟩
  obtain ⟨u, hu⟩ : ∃ u, u = x.v := ⟨_, rfl⟩
  rw [← hk] at hins hs1 hs2 ⊢
  rw [← hu] at hins ⊢
  rw [← hk, ← hu] at hxx
  have HR := Lib.hid hR
  have Hins := Lib.hid hins
  have Hs1 := Lib.hid hs1
  have Hs2 := Lib.hid hs2
  have Hx := Lib.hid hxx
  have hfind := fun W (hW : Below w.heap.size w W) => find_any P hr hn k A c W (Kd.C_below hC hW)
  have Hfind := Lib.hid hfind
  clear hR hC hfind hins hs1 hs2 hk hu hY hxx
  go_enter Try.func62, Try.ntmps62
  obtain ⟨w1, hw1⟩ : ∃ w1, w1 = w.alloc (.cells #[.string (bs k), .string (bs u)] 63) := ⟨_, rfl⟩
  have hb1 : Below w.heap.size w w1 := by rw [hw1]; exact (Below.refl _ _).alloc (Nat.le_refl _) _
  have hk1 : Blk w1 w.heap.size #[.string (bs k), .string (bs u)] 63 := by rw [hw1]; exact Blk.new w _ 63
  have c0 : w1.cell? ⟨w.heap.size, 0, none⟩ = some (.string (bs k)) := hk1.cell 0
  have c1 : w1.cell? ⟨w.heap.size, 1, none⟩ = some (.string (bs u)) := hk1.cell 1
  go_upto_region 1 with fail
  rw [← hw1]
  have Hf := Lib.hid (Hfind.out w1 hb1)
  have Hb1 := Lib.hid hb1
  clear hw1 hb1 hk1 Hfind
  go_wp2_with fail
  refine Hf.out.mono ?_
  rintro e w2 ⟨⟨n, rfl, hat⟩, hb2⟩
  have d0 : w2.cell? ⟨w.heap.size, 0, none⟩ = some (.string (bs k)) := Below.cellOld hb2 c0
  have d1 : w2.cell? ⟨w.heap.size, 1, none⟩ = some (.string (bs u)) := Below.cellOld hb2 c1
  have HB2 := Lib.hid (Hb1.out.trans (hb2.mono Hb1.out.size))
  have Hat := Lib.hid hat
  have hnP : n ≤ P.length := hat.1
  have HR2 := Lib.hid (Kd.R_below HR.out HB2.out)
  obtain ⟨b, hbk⟩ : ∃ b, b = hasKey P k n := ⟨_, rfl⟩
  have Hbk := Lib.hid hbk
  rw [← hbk]
  clear hb2 c0 c1 hat Hf hbk
  cases b with
  | true =>
    have hnl := hasKey_lt Hbk.out.symm
    obtain ⟨g, c', cur, e, h1, h2, h3, h4, h5, h6⟩ := R_cells HR2.out (by omega)
    injection e with e1 _ e3
    subst e1 e3
    obtain ⟨ad, e, f0, f1⟩ := at_pr (Kd.R_reads' HR2.out).2.2 (n : Int) (by omega) (by omega)
    cases e
    rw [Int.toNat_natCast] at f0 f1
    have g0 : w2.cell? ⟨g, n * 2, none⟩ = some (.string (bs (prA P n).k)) := by rw [Addr.add_lit, Nat.zero_add] at f0; exact f0
    have g1 : w2.cell? ⟨g, n * 2 + 1, none⟩ = some (.string (bs (prA P n).v)) := by rw [Addr.add_lit, Nat.zero_add] at f1; exact f1
    have z0 : w2.frozen? ⟨g, n * 2, none⟩ = false := h2.free _
    have z1 : (w2.setCell ⟨g, n * 2, none⟩ (.string (bs k))).frozen? ⟨g, n * 2 + 1, none⟩ = false := (h2.set _ _).free _
    have g2 : (w2.setCell ⟨g, n * 2, none⟩ (.string (bs k))).cell? ⟨g, n * 2 + 1, none⟩ = some (.string (bs (prA P n).v)) := by
      rw [World.cell?_setCell_other _ _ _ _ (by simp)]; exact g1
    have hseg := Kd.R_seg HR2.out (i := (n : Int)) (j := 0) (x' := (⟨k, u⟩ : Pr)) (seg := [.string (bs k), .string (bs u)]) (c := [.string (bs (prA P n).k), .string (bs (prA P n).v)]) (okp := fun _ => False) (by omega) (by omega) rfl (fun j q hj => by
      rw [Int.toNat_natCast]
      rcases j with _ | _ | j
      · cases hj; exact g0
      · cases hj; exact g1
      · simp at hj) (Nat.le_refl 2) (prK_mkM _ _ _ _) (fun _ h => h.elim)
    rw [Hx.out, Int.toNat_natCast, ← Hs2.out n Hat.out Hbk.out.symm] at hseg
    have HS := Lib.hid hseg
    have k0 : (0 : Int) ≤ (n : Int) := by omega
    have k1 : (n : Int) < (P.length : Int) := by omega
    clear h1 h2 h4 h5 h6 Hs1 Hs2 Hins hseg f0 f1 g1
    go_wp2_with fail
    go_ret
    exact ⟨_, rfl, HS.out.1, (Mut.of_below HB2.out).trans (mut_grown HS.out.2), fun q hq => .inl hq⟩
  | false =>
    have HS := Lib.hid (Hs1.out n Hat.out Hbk.out.symm)
    have hi2 := Hins.out n hnP w2 (Nat.le_trans hb HB2.out.size) HR2.out
    have Hi2 := Lib.hid hi2
    clear hi2 Hins Hs1 Hs2
    go_wp2_with fail
    refine Hi2.out.mono ?_
    rintro e w3 ⟨v', rfl, h1, h2, h3⟩
    rw [← HS.out] at h1
    have H1 := Lib.hid h1
    have H2 := Lib.hid ((Mut.of_below HB2.out).trans h2)
    have H3 := Lib.hid h3
    clear h1 h2 h3
    go_wp2
    go_ret
    refine ⟨_, rfl, H1.out, H2.out, fun q hq => ?_⟩
    rcases H3.out q hq with h | h
    · exact .inl h
    · exact .inr (Nat.le_trans HB2.out.size h)
end Go.Proofs.Yteilmbhnbmmcjaa.B
namespace Go.Proofs.Yteilmbhnbmmcjaa.B
open Go.RowKit Go.Proofs.YteilmbhnbmmcjaaW.PrintWords Go.Proofs.Yteilmbhnbmmcjaa.Later
set_option maxRecDepth 100000
set_option maxHeartbeats 3200000
theorem run_clearP (w : World) (ty : TypeId) (g o c : Nat) (cur : Array Value) (hb : Blk w g cur 63) (hf : o + 2 ≤ cur.size) :
    (Builtin.clear_ #[58] ty #[.slice (some ⟨g, o, none⟩) 1 c]).run Try.prog w = .ok (.tuple #[]) (w.setCells g o [.string ⟨#[]⟩, .string ⟨#[]⟩]) := by
  have hst := run_storeCells_cells (P := Try.prog) g o [.string ⟨#[]⟩, .string ⟨#[]⟩] 0 w (fun j hj => by rw [hb.cell]; simp at hj; simp; omega) (fun j _ => hb.free _) (fun v hv => by simp at hv; subst hv; rfl)
  have hz : (Builtin.zeroCells (Value.agg #[.string ⟨#[]⟩, .string ⟨#[]⟩]).cells 1).toList = [.string ⟨#[]⟩, .string ⟨#[]⟩] := by kernel_rfl
  simp only [Nat.add_zero] at hst
  simp [Builtin.clear_, run_underlying Try.underlying58, hz, hst]
theorem wanted_any {o : Oper} {b : Nat → Option Bool} (h : o.guard = none) : Region.wanted o b = true := by simp [Region.wanted, h]
theorem delP_step {ops : Array Oper} {o : Oper} {a : Act} {W w0 : World} {Kc : Act → World → Prop} {Q : Exit → Act → World → Prop} (base : Nat) (hgd : o.guard = none) (s x : Operand) (ho : o.op = .call { callee := .builtin .append, args := #[s, x], argTypes := #[58, 58] })
    {g n c k m c2 q : Nat} {A : Option Addr} {xs : List Pr} (hq : q = n - 1) (hs : a.eval s = .slice (some ⟨g, 0, none⟩) k c) (hx : a.eval x = .slice A m c2) (hA : Hid ((c = k + 1 ∧ A = some ⟨g, 0, none⟩) ∨ (c ≠ k + 1 ∧ A = some ⟨g, (k + 1) * 2, none⟩))) (hm : m = n - (k + 1))
    (HO : prK.R 63 W base (fun _ => True) (.slice (some ⟨g, 0, none⟩) n c) xs) (hk : k < n) (HB : Below base w0 W) (hbase : base ≤ W.heap.size)
    (h : ∀ w1, prK.R 63 w1 base (fun _ => True) (.slice (some ⟨g, 0, none⟩) q c) (xs.eraseIdx k) → W.grownBy w1 (some g) → Kc (a.put o.dst (.slice (some ⟨g, 0, none⟩) q c)) w1) :
    if Region.wanted o (yielded ops a.tmps) = true then Oper.wp Try.prog o a W Kc Q else Kc (a.put o.dst undef) W := by
  subst hq
  exact Kd.R_delete_step prK (w0 := w0) base (wanted_any hgd) s x 58 63 ho Try.underlying58 size63 hs hx (by
    rcases hA.out with ⟨h1, h2⟩ | ⟨h1, h2⟩
    · rw [if_pos h1]; exact h2
    · rw [if_neg h1, Option.map_some, Addr.add_lit, Nat.zero_add]; exact h2) hm HO hk HB hbase (fun w1 h1 _ h2 => h w1 h1 h2)
theorem delete_any (P : List Pr) (hn : P.length ≤ 10000) (i : Nat) (hi : i < P.length) (v : Value) (base : Nat) (W : World) (hb : base ≤ W.heap.size) (hR : prK.R 63 W base (fun _ => True) v P) :
    Calls Try.prog 66 #[v, .int .i64 i, .int .i64 ((i : Int) + 1)] W (ActPost base W v (P.take i ++ P.drop (i + 1))) := by
  obtain ⟨g, c, cur, rfl, h1, h2, h3, h4, h5, h6⟩ := R_cells hR (by omega)
  rw [← List.eraseIdx_eq_take_drop_succ]
  obtain ⟨n, hn'⟩ : ∃ n, n = P.length := ⟨_, rfl⟩
  rw [← hn'] at hn hi h3 hR ⊢
  obtain ⟨q, hq⟩ : ∃ q, q = n - 1 := ⟨_, rfl⟩
  have h4' : c ≤ 9223372036854775807 := by simpa only [maxLen] using h4
  have HR := Lib.hid hR
  have hel : (P.eraseIdx i).length = q := by rw [List.length_eraseIdx_of_lt (by omega), hq, hn']
  have Hel := Lib.hid hel
  have HRd := Lib.hid (Kd.R_below HR.out (show Below W.heap.size W W.drew from below_drewN (Below.refl _ _) 1))
  have hfin : ∀ (w1 w2 : World), prK.R 63 w1 base (fun _ => True) (.slice (some ⟨g, 0, none⟩) q c) (P.eraseIdx i) → W.drew.grownBy w1 (some g) → (∀ ty c', (Builtin.clear_ #[58] ty #[.slice (some ⟨g, q * 2, none⟩) 1 c']).run Try.prog w1 = .ok (.tuple #[]) (w1.setCells g (q * 2) [.string ⟨#[]⟩, .string ⟨#[]⟩])) ∧
      (w2 = w1.setCells g (q * 2) [.string ⟨#[]⟩, .string ⟨#[]⟩] → prK.R 63 w2 base (fun _ => True) (.slice (some ⟨g, 0, none⟩) q c) (P.eraseIdx i) ∧ Mut (fun k => (Value.slice (some ⟨g, 0, none⟩) n c).ownBlock = some k) W w2) := fun w1 w2 r1 r2 => by
    obtain ⟨cur1, q1, q2, q3, q4, q5, q6, q7⟩ := R_blk r1
    refine ⟨fun ty c' => run_clearP w1 ty g (q * 2) c' cur1 q2 (by omega), fun e => ?_⟩
    obtain ⟨cur2, p1, p2, p3, p4⟩ := setCells_blk q2 (q * 2) [.string ⟨#[]⟩, .string ⟨#[]⟩] (by rw [q6]; show q * 2 + 2 ≤ _; omega)
    rw [← e] at p1 p4
    refine ⟨?_, ?_⟩
    · have hr := R_of (L := P.eraseIdx i) p1 q1 (by rw [p2, q6]) (by omega) q5 (by
        have hl : ((cur1.toList.take (q * 2))).length = q * 2 := by rw [q7, cellsP_len, hel]
        rw [p3, hel, ← q7, List.append_assoc]
        exact List.take_left' hl)
      rwa [hel] at hr
    · have m0 : Mut (fun k => (Value.slice (some ⟨g, 0, none⟩) n c).ownBlock = some k) W.drew w1 := mut_grown (v := .slice (some ⟨g, 0, none⟩) n c) r2
      exact ((Mut.refl _ W).drew 1).trans (m0.trans (p4.mono (fun k _ hk => congrArg some (show g = k from hk.symm))))
  have Hfin := Lib.hid hfin
  have Hq := Lib.hid hq
  have q1 : (q : Int) ≤ (n : Int) := by omega
  have q2 : (q : Int) ≤ (c : Int) := by omega
  have q3 : n - q = 1 := by omega
  have q4 : (n : Int) ≤ (c : Int) := by omega
  have q5 : (0 : Int) ≤ (q : Int) := by omega
  have q6 : ¬ (c = q) := by omega
  clear h2 h5 h6 h1 hR hn' hel hfin hq
  have i0 : (0 : Int) ≤ (i : Int) := by omega
  have i1 : (i : Int) < (n : Int) := by omega
  have i2 : (i : Int) ≤ (n : Int) := by omega
  have j0 : (0 : Int) ≤ (i : Int) + 1 := by omega
  have j1 : (i : Int) + 1 ≤ (n : Int) := by omega
  have jt : ((i : Int) + 1).toNat = i + 1 := by omega
  have j2 : (i : Int) ≤ (i : Int) + 1 := by omega
  have j3 : IntKind.i64.wrap ((i : Int) + 1) = (i : Int) + 1 := by rw [IntKind.wrap_i64]; omega
  have j4 : (n : Int) ≤ (c : Int) := by omega
  have j5 : (i : Int) ≤ (c : Int) := by omega
  have j6 : (i : Int) + 1 ≤ (c : Int) := by omega
  have j7 : ¬ ((i : Int) = (i : Int) + 1) := by omega
  by_cases hc : c = i + 1
  · subst hc
    obtain rfl : n = i + 1 := by omega
    have k1 : (i : Int) ≤ (i : Int) + 1 := by omega
    have k2 : (q : Int) ≤ (i : Int) + 1 := by omega
    have k3 : ¬ (i + 1 = i) := by omega
    go_enter Try.func66, Try.ntmps66
    go_wp2_with fail
    go_region_law (refine delP_step (w0 := W) base rfl (.tmp 22) (.tmp 25) rfl (g := g) (n := i + 1) (c := i + 1) (q := q) (k := i) (m := 0) (c2 := 0) (A := some ⟨g, 0, none⟩) Hq.out (by simp [Act.eval, Act.put]) (by simp [Act.eval, Act.put]) (Lib.hid (Or.inl ⟨rfl, rfl⟩)) (Nat.sub_self _).symm HRd.out (Nat.lt_succ_self i) ((below_drewN (Below.refl _ _) 1)) hb ?_; intro w1 r1 r2; obtain ⟨hcl, hf⟩ := Hfin.out w1 (w1.setCells g (q * 2) [.string ⟨#[]⟩, .string ⟨#[]⟩]) r1 r2; have HF := Lib.hid (hf rfl); clear hf r1 r2)
    go_wp2
    go_ret
    exact ⟨_, rfl, HF.out.1, HF.out.2, fun q hq => .inl hq⟩
  · have hc2 := Lib.hid hc
    go_enter Try.func66, Try.ntmps66
    go_wp2_with fail
    go_region_law (refine delP_step (w0 := W) base rfl (.tmp 22) (.tmp 25) rfl (g := g) (n := n) (c := c) (q := q) (k := i) (m := n - (i + 1)) (c2 := c - (i + 1)) (A := some ⟨g, (i + 1) * 2, none⟩) Hq.out (by simp [Act.eval, Act.put]) (by simp [Act.eval, Act.put]) (Lib.hid (Or.inr ⟨hc2.out, rfl⟩)) rfl HRd.out hi ((below_drewN (Below.refl _ _) 1)) hb ?_; intro w1 r1 r2; obtain ⟨hcl, hf⟩ := Hfin.out w1 (w1.setCells g (q * 2) [.string ⟨#[]⟩, .string ⟨#[]⟩]) r1 r2; have HF := Lib.hid (hf rfl); clear hf r1 r2)
    go_wp2
    go_ret
    exact ⟨_, rfl, HF.out.1, HF.out.2, fun q hq => .inl hq⟩
end Go.Proofs.Yteilmbhnbmmcjaa.B
namespace Go.Proofs.Yteilmbhnbmmcjaa.B
open Go.RowKit Go.Proofs.YteilmbhnbmmcjaaW.PrintWords Go.Proofs.Yteilmbhnbmmcjaa.Later
set_option maxRecDepth 100000
set_option maxHeartbeats 3200000
theorem drop1_any (P : List Pr) (hn : P.length ≤ 10000) (hr : Rises P) (x : Pr) (v : Value) (base : Nat) (w : World) (hb : base ≤ w.heap.size) (hR : prK.R 63 w base (fun _ => True) v P) :
    Calls Try.prog 65 #[v, .agg #[.string (bs x.k), .string (bs x.v)]] w (ActPost base w v (drop1 P x)) := by
  obtain ⟨A, c, rfl, hlc, hC⟩ := Kd.R_reads hR
  have hdel := fun i hi W hb hR => delete_any P hn i hi (.slice A P.length c) base W hb hR
  have hs1 := fun n hat hh => drop1_no hr (x := x) (n := n) hat hh
  have hs2 := fun n hat hh => drop1_is hr (x := x) (n := n) hat hh
  obtain ⟨Y, hY⟩ : ∃ Y, Y = drop1 P x := ⟨_, rfl⟩
  rw [← hY] at hs1 hs2 ⊢
  obtain ⟨k, hk⟩ : ∃ k, k = x.k := ⟨_, rfl⟩
  obtain ⟨u, hu⟩ : ∃ u, u = x.v := ⟨_, rfl⟩
  rw [← hk] at hs1 hs2 ⊢
  rw [← hu]
  have HR := Lib.hid hR
  have Hdel := Lib.hid hdel
  have Hs1 := Lib.hid hs1
  have Hs2 := Lib.hid hs2
  have hfind := fun W (hW : Below w.heap.size w W) => find_any P hr hn k A c W (Kd.C_below hC hW)
  have Hfind := Lib.hid hfind
  clear hR hC hfind hdel hs1 hs2 hk hu hY
  go_enter Try.func65, Try.ntmps65
  obtain ⟨w1, hw1⟩ : ∃ w1, w1 = w.alloc (.cells #[.string (bs k), .string (bs u)] 63) := ⟨_, rfl⟩
  have hb1 : Below w.heap.size w w1 := by rw [hw1]; exact (Below.refl _ _).alloc (Nat.le_refl _) _
  have hk1 : Blk w1 w.heap.size #[.string (bs k), .string (bs u)] 63 := by rw [hw1]; exact Blk.new w _ 63
  have c0 : w1.cell? ⟨w.heap.size, 0, none⟩ = some (.string (bs k)) := hk1.cell 0
  have c1 : w1.cell? ⟨w.heap.size, 1, none⟩ = some (.string (bs u)) := hk1.cell 1
  go_upto_region 1 with fail
  rw [← hw1]
  have Hf := Lib.hid (Hfind.out w1 hb1)
  have Hb1 := Lib.hid hb1
  clear hw1 hb1 hk1 Hfind
  go_wp2_with fail
  refine Hf.out.mono ?_
  rintro e w2 ⟨⟨n, rfl, hat⟩, hb2⟩
  have HB2 := Lib.hid (Hb1.out.trans (hb2.mono Hb1.out.size))
  have Hat := Lib.hid hat
  have hnP : n ≤ P.length := hat.1
  have HR2 := Lib.hid (Kd.R_below HR.out HB2.out)
  obtain ⟨b, hbk⟩ : ∃ b, b = hasKey P k n := ⟨_, rfl⟩
  have Hbk := Lib.hid hbk
  rw [← hbk]
  clear hb2 c0 c1 hat Hf hbk
  cases b with
  | true =>
    have hnl := hasKey_lt Hbk.out.symm
    have HS := Lib.hid (Hs2.out n Hat.out Hbk.out.symm)
    have hi2 := Hdel.out n hnl w2 (Nat.le_trans hb HB2.out.size) HR2.out
    have Hi2 := Lib.hid hi2
    clear hi2 Hdel Hs1 Hs2
    go_wp2_with fail
    refine Hi2.out.mono ?_
    rintro e w3 ⟨v', rfl, h1, h2, h3⟩
    rw [← HS.out] at h1
    have H1 := Lib.hid h1
    have H2 := Lib.hid ((Mut.of_below HB2.out).trans h2)
    have H3 := Lib.hid h3
    clear h1 h2 h3
    go_wp2
    go_ret
    refine ⟨_, rfl, H1.out, H2.out, fun q hq => ?_⟩
    rcases H3.out q hq with h | h
    · exact .inl h
    · exact .inr (Nat.le_trans HB2.out.size h)
  | false =>
    have HS := Lib.hid (Hs1.out n Hat.out Hbk.out.symm)
    clear Hdel Hs1 Hs2
    go_wp2
    go_ret
    rw [HS.out]
    exact ⟨_, rfl, HR2.out, Mut.of_below HB2.out, fun q hq => .inl hq⟩
theorem enter62z (x y : Value) (W : World) : (callFunc 62 #[x, y]).run Try.prog W = .ok (.enter 62 #[x, y]) W := by kernel_rfl
theorem enter65 (x y : Value) (W : World) : (callFunc 65 #[x, y]).run Try.prog W = .ok (.enter 65 #[x, y]) W := by kernel_rfl
def actF (b : Bool) : Nat := if b then 65 else 62
theorem act_enter (b : Bool) (x y : Value) (W : World) : (callFunc (actF b) #[x, y]).run Try.prog W = .ok (.enter (actF b) #[x, y]) W := by
  cases b
  · exact enter62z x y W
  · exact enter65 x y W
theorem act_any (b : Bool) (P : List Pr) (hn : P.length ≤ 10000) (hr : Rises P) (x : Pr) (v : Value) (base : Nat) (w : World) (hb : base ≤ w.heap.size) (hR : prK.R 63 w base (fun _ => True) v P) :
    Calls Try.prog (actF b) #[v, .agg #[.string (bs x.k), .string (bs x.v)]] w (ActPost base w v (act1 b P x)) := by
  cases b
  · exact set1_any P hn hr x v base w hb hR
  · exact drop1_any P hn hr x v base w hb hR
/-- Behind the first n pairs of a call. -/
def foldA (b : Bool) (m : List Pr) (p : List Pr) : Nat → List Pr
  | 0 => m
  | n + 1 => act1 b (foldA b m p n) (prA p n)
theorem st_foldA {b : Bool} {m : List Pr} (h : St m) (p : List Pr) : ∀ n, St (foldA b m p n)
  | 0 => h
  | n + 1 => st_act1 (st_foldA h p n) b _
theorem PM_fold {b : Bool} {m : List Pr} (h : St m) (p : List Pr) : ∀ (n k : Nat), PM (fun k => fl k m) (act1 b) p n k = fl k (foldA b m p n)
  | 0, k => rfl
  | n + 1, k => by
    simp only [PM, upN, foldA]
    rw [fl_act1 (st_foldA h p n)]
    by_cases e : k = bucket (prA p n).k
    · subst e; rw [if_pos rfl, if_pos rfl, PM_fold h p n]
    · rw [if_neg e, if_neg (fun h2 => e h2.symm), PM_fold h p n]
theorem act1_mem {b : Bool} {m : List Pr} (h : St m) {p x : Pr} (hx : x ∈ act1 b m p) : x = p ∧ b = false ∨ x ∈ m := by
  cases b
  · rcases (mem_set1 h p x).1 hx with rfl | ⟨h1, _⟩
    · exact .inl ⟨rfl, rfl⟩
    · exact .inr h1
  · exact .inr ((mem_drop1 m p x).1 hx).1
theorem set1_len : ∀ (l : List Pr) (x : Pr), (set1 l x).length ≤ l.length + 1
  | [], _ => by simp [set1]
  | y :: l, x => by
    unfold set1
    have := set1_len l x
    split
    · simp; omega
    · split <;> simp
theorem act1_len (b : Bool) (l : List Pr) (x : Pr) : (act1 b l x).length ≤ l.length + 1 := by
  cases b
  · exact set1_len l x
  · exact Nat.le_trans (List.length_filter_le _ _) (Nat.le_succ _)
theorem foldA_len (b : Bool) (m p : List Pr) : ∀ n, (foldA b m p n).length ≤ m.length + n
  | 0 => Nat.le_refl _
  | n + 1 => Nat.le_trans (act1_len b _ _) (by have := foldA_len b m p n; omega)
theorem foldA_all {b : Bool} {m p : List Pr} (h : St m) {C : Pr → Prop} (hm : ∀ x ∈ m, C x) (hp : b = false → ∀ x ∈ p, C x) : ∀ n, n ≤ p.length → ∀ x ∈ foldA b m p n, C x
  | 0, _, x, hx => hm x hx
  | n + 1, hn, x, hx => by
    rcases act1_mem (st_foldA h p n) hx with ⟨rfl, hb⟩ | h1
    · exact hp hb _ (by rw [prA_get p n (by omega)]; exact List.getElem_mem _)
    · exact foldA_all h hm hp n (by omega) x h1
end Go.Proofs.Yteilmbhnbmmcjaa.B
