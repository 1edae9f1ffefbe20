/- Helper: a statement whose order is open, whose operations make new things in any order: each operation's value is known by what holds of it, not by what it is. a statement whose order is open: what reads, or makes something new, comes first; what changes something comes last: one walk serves every order. a statement whose order is open, where its first operations have been taken: what is quiet comes first, what changes something last. a statement whose order is open, where its first operation has been taken: what only makes garbage comes first, what changes something last. No condition. -/
import Derived.Test.YticnmogeknlmeaaGreatDoorN01
import Derived.StillTail
import Derived.KernelRfl
import Derived.Lib.Hide
namespace Go.Proofs.YticnmogeknlmeaaGreatDoor.Later
open Go.RowKit
def putAll (a : Act) : List Oper → List Value → Act
  | o :: l, v :: vs => putAll (a.put o.dst v) l vs
  | _, _ => a
def dstsOf (l : List Oper) : List (Option Tmp) := l.map (·.dst)
theorem put_ne (a : Act) {d e : Option Tmp} (v u : Value) (h : d ≠ e) : (a.put d v).put e u = (a.put e u).put d v := by
  cases d with
  | none => cases e <;> rfl
  | some d =>
    cases e with
    | none => rfl
    | some e =>
      have : d ≠ e := fun k => h (by rw [k])
      simp only [Act.put]
      rw [Array.setIfInBounds_comm _ _ this]
theorem put_put (a : Act) (d : Option Tmp) (v u : Value) : (a.put d v).put d u = a.put d u := by
  cases d with
  | none => rfl
  | some d => simp [Act.put]
theorem put_putAll {d : Option Tmp} (v : Value) : ∀ (l : List Oper) (vs : List Value) (a : Act), d ∉ dstsOf l → (putAll a l vs).put d v = putAll (a.put d v) l vs
  | [], vs, a, _ => by cases vs <;> rfl
  | o :: l, [], a, _ => rfl
  | o :: l, u :: vs, a, h => by
    have h1 : d ≠ o.dst := fun k => h (by rw [k]; exact List.mem_cons_self)
    have h2 : d ∉ dstsOf l := fun k => h (List.mem_cons_of_mem _ k)
    rw [putAll, put_putAll v l vs _ h2, put_ne a u v (Ne.symm h1)]
    rfl
theorem putAll_set (v : Value) : ∀ (l : List Oper) (vs : List Value) (a : Act) (i : Nat) (o : Oper), (dstsOf l).Nodup → l[i]? = some o → i < vs.length → (putAll a l vs).put o.dst v = putAll a l (vs.set i v)
  | [], vs, a, i, o, _, h, _ => by cases h
  | o' :: l, [], a, i, o, _, _, h => by simp at h
  | o' :: l, u :: vs, a, 0, o, hd, h, _ => by
    obtain rfl : o' = o := by simpa using h
    rw [putAll, put_putAll v l vs _ (List.nodup_cons.1 hd).1, put_put]
    rfl
  | o' :: l, u :: vs, a, i + 1, o, hd, h, hi => by
    rw [putAll, putAll_set v l vs _ i o (List.nodup_cons.1 hd).2 (by simpa using h) (by simpa using hi)]
    rfl
def olds (a : Act) (l : List Oper) : List Value := l.map fun o => match o.dst with | some d => a.tmps.getD d undef | none => undef
theorem put_old (a : Act) (d : Option Tmp) : a.put d (match d with | some d => a.tmps.getD d undef | none => undef) = a := by
  cases d with
  | none => rfl
  | some d =>
    simp only [Act.put]
    congr 1
    apply Array.ext
    · simp
    · intro i h1 h2
      by_cases e : d = i
      · subst e
        simp at h1
        simp [h1]
      · exact Array.getElem_setIfInBounds_ne h2 e
theorem putAll_old (a : Act) : ∀ l : List Oper, putAll a l (olds a l) = a
  | [] => rfl
  | o :: l => by
    have := putAll_old a l
    simp only [olds, List.map_cons, putAll] at *
    rw [put_old]
    exact this
def undone (listed : Array Bool) : Nat := (listed.toList.filter (!·)).length
theorem undone_set (listed : Array Bool) (i : Nat) (h : listed.getD i true = false) : undone (listed.setIfInBounds i true) + 1 = undone listed := by
  have hi : i < listed.size := by
    rcases Nat.lt_or_ge i listed.size with h' | h'
    · exact h'
    · simp [Array.getElem?_eq_none h'] at h
  have he : listed[i] = false := by simpa [hi] using h
  have : ∀ (l : List Bool) (k : Nat), l[k]? = some false → ((l.set k true).filter (!·)).length + 1 = (l.filter (!·)).length := by
    intro l
    induction l with
    | nil => intro k h; simp at h
    | cons b l ih =>
      intro k h
      cases k with
      | zero => obtain rfl : b = false := by simpa using h
                simp
      | succ k =>
        have := ih k (by simpa using h)
        cases b <;> simp <;> omega
  unfold undone
  rw [Array.toList_setIfInBounds]
  exact this listed.toList i (by simp [hi, he])
section
variable {P : Program} {Q : Exit → Act → World → Prop}
theorem wpAny_rel {l : List Oper} {a : Act} {w : World} (R : Nat → Value → World → Prop) (hmono : ∀ i v w1 w2, Below w1.heap.size w1 w2 → R i v w1 → R i v w2) (hd : (dstsOf l).Nodup)
    (hstep : ∀ (i : Nat) (o : Oper) (vs : List Value) (w' : World), l[i]? = some o → vs.length = l.length → Below w.heap.size w w' → (∀ e ∈ o.after, Region.binds .any e = true → ∀ v, vs[e.on]? = some v → R e.on v w') →
      wpOp P l.toArray Q i (fun a'' w'' => ∃ v, a'' = (putAll a l vs).put o.dst v ∧ R i v w'' ∧ Below w'.heap.size w' w'') (putAll a l vs) w')
    (hend : ∀ (vs : List Value) (w' : World), vs.length = l.length → Below w.heap.size w w' → (∀ i v, vs[i]? = some v → R i v w') → Q .normal (putAll a l vs) w')
    (hall : ∀ listed : Array Bool, listed.size = l.length → Region.ready .any l.toArray listed = [] → ∀ i, i < l.length → listed.getD i false = true) :
    ∀ (fuel : Nat) (listed : Array Bool) (vs : List Value) (w' : World), listed.size = l.length → undone listed ≤ fuel → vs.length = l.length → Below w.heap.size w w' → (∀ i v, vs[i]? = some v → listed.getD i false = true → R i v w') → wpAny P .any l.toArray Q fuel listed (putAll a l vs) w' := by
  have fin : ∀ (listed : Array Bool) (vs : List Value) (w' : World), listed.size = l.length → vs.length = l.length → Below w.heap.size w w' → (∀ i v, vs[i]? = some v → listed.getD i false = true → R i v w') → Region.ready .any l.toArray listed = [] → Q .normal (putAll a l vs) w' := fun listed vs w' hs hv hb hr h0 =>
    hend vs w' hv hb fun i v hi => hr i v hi (hall listed hs h0 i (by have := (List.getElem?_eq_some_iff.1 hi).1; omega))
  intro fuel
  induction fuel with
  | zero =>
    intro listed vs w' hs hu hv hb hr
    have h0 : Region.ready .any l.toArray listed = [] := by
      cases hq : Region.ready .any l.toArray listed with
      | nil => rfl
      | cons i r =>
        have hm : i ∈ Region.ready .any l.toArray listed := by rw [hq]; exact List.mem_cons_self
        have := undone_set listed i (mem_ready.1 hm).1
        omega
    exact ⟨h0, fin listed vs w' hs hv hb hr h0⟩
  | succ fuel ih =>
    intro listed vs w' hs hu hv hb hr
    refine ⟨fin listed vs w' hs hv hb hr, fun i hi => ?_⟩
    obtain ⟨hun, o, ho, hall'⟩ := mem_ready.1 hi
    have ho' : l[i]? = some o := by simpa using ho
    have hil : i < l.length := (List.getElem?_eq_some_iff.1 ho').1
    refine wpOp_mono (fun a'' w'' h => ?_) (hstep i o vs w' ho' hv hb fun e he hbd v hev => hr e.on v hev (hall' e he hbd))
    obtain ⟨v, rfl, hR, hb2⟩ := h
    rw [putAll_set v l vs a i o hd ho' (by omega)]
    refine ih _ _ _ (by simp [hs]) ?_ (by simp [hv]) (hb.trans (hb2.mono hb.size)) fun j u hj hl => ?_
    · have := undone_set listed i hun; omega
    · by_cases e : i = j
      · subst e
        rw [List.getElem?_set_self (by omega)] at hj
        obtain rfl := Option.some.inj hj
        exact hR
      · rw [List.getElem?_set_ne e] at hj
        rw [getD_set_ne false e] at hl
        exact hmono _ _ _ _ hb2 (hr j u hj hl)
end
/-- What is left when nothing may come up: all are done, for a list of operations that wait for elder ones alone. -/
def eldersB (l : List Oper) : Bool := (List.range l.length).all fun i => match l[i]? with | some o => o.after.all fun e => !Region.binds .any e || decide (e.on < i) | none => true
theorem all_done {l : List Oper} (h : eldersB l = true) (listed : Array Bool) (_hs : listed.size = l.length) (h0 : Region.ready .any l.toArray listed = []) : ∀ i, i < l.length → listed.getD i false = true := by
  intro i
  induction i using Nat.strongRecOn with
  | ind i ih =>
    intro hi
    cases hl : listed.getD i false with
    | true => rfl
    | false =>
      exfalso
      have hlt : i < listed.size := by omega
      have hm : i ∈ Region.ready .any l.toArray listed := by
        refine mem_ready.2 ⟨by simpa [hlt] using hl, l[i], by simp [hi], fun e he hb => ih e.on ?_ ?_⟩
        · have h1 := List.all_eq_true.1 h i (List.mem_range.2 hi)
          rw [List.getElem?_eq_getElem hi] at h1
          have h2 := Array.all_eq_true_iff_forall_mem.1 h1 e he
          simpa [hb] using h2
        · have h1 := List.all_eq_true.1 h i (List.mem_range.2 hi)
          rw [List.getElem?_eq_getElem hi] at h1
          have h2 := Array.all_eq_true_iff_forall_mem.1 h1 e he
          have : e.on < i := by simpa [hb] using h2
          omega
      rw [h0] at hm
      cases hm
theorem wp_region_rel {P : Program} {id : Nat} {Q : Exit → Act → World → Prop} {a : Act} {w : World} {l : List Oper} (R : Nat → Value → World → Prop) (hm : P.follows .mixedOrders = true) (he : eldersB l = true) (hd : (dstsOf l).Nodup)
    (hmono : ∀ i v w1 w2, Below w1.heap.size w1 w2 → R i v w1 → R i v w2)
    (hstep : ∀ (i : Nat) (o : Oper) (vs : List Value) (w' : World), l[i]? = some o → vs.length = l.length → Below w.heap.size w w' → (∀ e ∈ o.after, Region.binds .any e = true → ∀ v, vs[e.on]? = some v → R e.on v w') →
      ∀ A, A = putAll a l vs → wpOp P l.toArray Q i (fun a'' w'' => ∃ v, a'' = A.put o.dst v ∧ R i v w'' ∧ Below w'.heap.size w' w'') A w')
    (hend : ∀ (vs : List Value) (w' : World), vs.length = l.length → Below w.heap.size w w' → (∀ i v, vs[i]? = some v → R i v w') → Q .normal (putAll a l vs) w') : (Code.region id l.toArray true).wp P Q a w := by
  refine wp_region_any hm ?_
  have h := wpAny_rel (P := P) (Q := Q) (l := l) (a := a) (w := w) R hmono hd (fun i o vs w' h1 h2 h3 h4 => hstep i o vs w' h1 h2 h3 h4 _ rfl) hend (all_done he) l.length (Array.replicate l.length false) (olds a l) (w.drewN 1) (by simp) ?_ (by simp [olds]) (below_drewN (Below.refl _ _) 1) (fun i v _ h => ?_)
  · rw [putAll_old] at h
    rw [List.size_toArray]
    exact h
  · unfold undone
    simp
  · rw [getD_replicate_false] at h
    cases h
/-- One operation of a region, its end behind a letter. -/
theorem wpOp_one {P : Program} {ops : Array Oper} {Q : Exit → Act → World → Prop} {i : Nat} {o : Oper} {K : Act → World → Prop} {a : Act} {w : World} (hi : ops[i]? = some o) (hg : o.guard = none) (h : ∀ K' : Act → World → Prop, Hid (∀ a w, K a w → K' a w) → o.wp P a w K' Q) : wpOp P ops Q i K a w := by
  unfold wpOp
  rw [hi]
  simp only []
  split
  · exact Or.inl (h K (Lib.hid fun _ _ k => k))
  · rename_i hw
    exfalso
    apply hw
    unfold Region.wanted
    rw [hg]
end Go.Proofs.YticnmogeknlmeaaGreatDoor.Later
namespace Go.Proofs.YticnmogeknlmeaaGreatDoor.Later
open Go.RowKit
section
variable {P : Program} {ops : Array Oper} {md : Region.Mode} {C : World → Prop}
def anyHead (P : Program) (md : Region.Mode) (ops : Array Oper) (C : World → Prop) (n : Nat) (L : Array Bool → Act → Prop) : Nat → Array Bool → Act → Prop
  | 0, listed, a => L listed a
  | f + 1, listed, a => Region.ready md ops listed ≠ [] ∧ ∀ i ∈ Region.ready md ops listed, i < n ∧ qOp P ops C i (anyHead P md ops C n L f (listed.setIfInBounds i true)) a
theorem any_of_head {n g : Nat} {L : Array Bool → Act → Prop} {Q : Exit → Act → World → Prop} (hL : ∀ listed a w, C w → L listed a → wpAny P md ops Q g listed a w) :
    ∀ (f : Nat) (listed : Array Bool) (a : Act) (w : World), C w → anyHead P md ops C n L f listed a → wpAny P md ops Q (f + g) listed a w
  | 0, listed, a, w, hw, h => by rw [Nat.zero_add]; exact hL _ _ _ hw h
  | f + 1, listed, a, w, hw, h => by
    rw [show f + 1 + g = (f + g) + 1 by omega]
    exact ⟨fun h0 => absurd h0 h.1, fun i hi => wpOp_of_qOp hw (fun a' w' hw' h' => any_of_head hL f _ a' w' hw' h') (h.2 i hi).2⟩
theorem head_first {n i : Nat} {oi : Oper} {v : Value} {L : Array Bool → Act → Prop} (hi : ops[i]? = some oi) (hsel : ∀ (j : Nat) (o : Oper) cs b, ops[j]? = some o → o.op ≠ .select cs b)
    (hs : Region.sinkB md ops n = true) (hc : Region.chainB md ops n = true) (hn : n < ops.size) (hin : i < n) (hdone : ∀ listed a, L listed a → ∀ j ∈ Region.ready md ops listed, n ≤ j) (f : Nat) :
    ∀ (listed : Array Bool) (a : Act), HeadInv md ops n listed → (∀ j oj, ops[j]? = some oj → j ≠ i → listed.getD j true = false → (∀ e ∈ oj.after, Region.binds md e = true → e.on ≠ i) → oi.apart ops oj = true) →
      i ∈ Region.ready md ops listed → YieldsIn P ops C oi v a → anyHead P md ops C n L f (listed.setIfInBounds i true) (a.put oi.dst v) → anyHead P md ops C n L (f + 1) listed a := by
  have below : ∀ {listed : Array Bool} {j : Nat}, HeadInv md ops n listed → i ∈ Region.ready md ops listed → j ∈ Region.ready md ops listed → j < n := fun {listed j} inv hr hj => by
    rcases Nat.lt_or_ge j n with h | h
    · exact h
    · exact absurd hj (tail_waits hs hc hn inv _ i rfl hin (mem_ready.1 hr).1 j h)
  have some_ready : ∀ {listed : Array Bool}, i ∈ Region.ready md ops listed → Region.ready md ops listed ≠ [] := fun hr h => by rw [h] at hr; cases hr
  induction f with
  | zero =>
    intro listed a inv _ hr hy H
    refine ⟨some_ready hr, fun j hj => ⟨below inv hr hj, ?_⟩⟩
    by_cases hji : j = i
    · subst hji; exact hy.qOp hi H
    · have h1 := hdone _ _ H j (ready_mono hj hji)
      have h2 := below inv hr hj
      omega
  | succ f ih =>
    intro listed a inv hfree hr hy H
    refine ⟨some_ready hr, fun j hj => ⟨below inv hr hj, ?_⟩⟩
    by_cases hji : j = i
    · subst hji; exact hy.qOp hi H
    · obtain ⟨hjun, oj, hoj, hall⟩ := mem_ready.1 hj
      have hnot : ∀ e ∈ oj.after, Region.binds md e = true → e.on ≠ i := fun e he hb heq => by
        have h1 := hall e he hb
        rw [heq, getD_both (mem_ready.1 hr).1] at h1
        cases h1
      have h2 := qOp_put hoj (hfree j oj hoj hji hjun hnot) (fun cs b => hsel i oi cs b hi) (fun cs b => hsel j oj cs b hoj) hy (H.2 j (ready_mono hj hji)).2
      refine qOp_mono (fun a' h3 => ih (listed.setIfInBounds j true) a' (inv.set hj (below inv hr hj)) (fun k ok hk hki hun hno => hfree k ok hk hki ?_ hno) (ready_mono hr (Ne.symm hji)) h3.1 ?_) h2
      · by_cases hjk : j = k
        · subst hjk; exact hjun
        · rw [getD_set_ne true hjk] at hun; exact hun
      · rw [Array.setIfInBounds_comm _ _ hji]
        exact h3.2
theorem head_lex {n g : Nat} {Lq : Act → Prop} (hsel : Region.noSelect ops = true) (hs : Region.sinkB md ops n = true) (hc : Region.chainB md ops n = true) (hn : n < ops.size) :
    ∀ (l : List Oper) (k : Nat) (listed : Array Bool) (a : Act), (∀ j, j < l.length → l[j]? = ops[k + j]?) → k + l.length = n → HeadInv md ops n listed → Region.lexHead md ops g l.length k listed = true → wpQuiet P ops C Lq l a →
    anyHead P md ops C n (fun listed' a' => Region.seqB md ops g n listed' = true ∧ Lq a') l.length listed a
  | [], k, listed, a, _, hk, _, hB, h => by
    obtain rfl : k = n := by simpa using hk
    exact ⟨by simpa [Region.lexHead] using hB, h⟩
  | o :: l, k, listed, a, hl, hk, inv, hB, h => by
    have h0 : ops[k]? = some o := by simpa using (hl 0 (by simp)).symm
    simp only [List.length_cons, Region.lexHead, Bool.and_eq_true] at hB hk
    obtain ⟨⟨hr, hf⟩, hB'⟩ := hB
    have hkn : k < n := by omega
    have hr' : k ∈ Region.ready md ops listed := by simpa using hr
    have hq : qOp P ops C k (wpQuiet P ops C Lq l) a := by unfold qOp; simp only [h0]; exact h
    obtain ⟨v, hy, hK⟩ := yieldsIn_of_qOp h0 hq
    exact head_first h0 (Region.noSelect_spec hsel) hs hc hn hkn (fun _ _ hL => seqB_ready hL.1) l.length listed a inv (Region.free_spec h0 hf) hr' hy
      (head_lex hsel hs hc hn l (k + 1) _ _ (fun j hj => by have := hl (j + 1) (by simp; omega); simpa [Nat.add_assoc, Nat.add_comm 1 j] using this) (by omega) (inv.set hr' hkn) hB' hK)
/-- n operations that leave a class of worlds as it is, then the rest, one by one. -/
theorem wp_region_class_tail {id : Nat} {Q : Exit → Act → World → Prop} {a : Act} {w : World} {l : List Oper} (n : Nat) (hm : P.follows .mixedOrders = true) (hB : Region.lexTailB .any l.toArray n = true) (hC : C { w with drawn := w.drawn + 1 })
    (h : wpQuiet P l.toArray C (fun a' => ∀ w', C w' → wpList P l.toArray Q (l.drop n) a' w') (l.take n) a) : (Code.region id l.toArray true).wp P Q a w := by
  simp only [Region.lexTailB, Bool.and_eq_true, decide_eq_true_eq] at hB
  obtain ⟨⟨⟨⟨hsel, hn⟩, hs⟩, hc⟩, hlex⟩ := hB
  have hn' : n < l.length := by simpa using hn
  have htl : (l.take n).length = n := by simp; omega
  have hdl : (l.drop n).length = l.toArray.size - n := by simp
  have inv0 : HeadInv .any l.toArray n (Array.replicate l.toArray.size false) :=
    ⟨by simp, fun j oj _ hl => (by rw [getD_replicate_false] at hl; cases hl), fun t _ ht => getD_in (by simpa using ht) (getD_replicate_false _ _)⟩
  have H := head_lex (md := .any) (g := l.toArray.size - n) hsel hs hc hn (l.take n) 0 _ a (fun j hj => by
    have hj' : j < n := by rw [htl] at hj; exact hj
    simp [hj']) (by simpa using htl) inv0 (by rw [htl]; exact hlex) h
  refine wp_region_any hm ?_
  have := any_of_head (Q := Q) (g := l.toArray.size - n) (fun listed a' w' hw' hL => by
    have := wpAny_of_seq (md := .any) (Q' := Q) (l.drop n) n listed a' w' (fun j => by simp [List.getElem?_drop]) (by rw [hdl]; exact hL.1) (hL.2 w' hw')
    rwa [hdl] at this) _ _ _ _ hC H
  rw [htl, show n + (l.toArray.size - n) = l.toArray.size by omega] at this
  exact this
end
/-- The head only reads, or makes what is new. -/
theorem wp_region_later_tail {P : Program} {id : Nat} {Q : Exit → Act → World → Prop} {a : Act} {w : World} {l : List Oper} (n : Nat) (hm : P.follows .mixedOrders = true) (hB : Region.lexTailB .any l.toArray n = true)
    (h : wpQuiet P l.toArray (fun w' => ∃ m : LaterOf w, w' = later w m) (fun a' => ∀ w', (∃ m : LaterOf w, w' = later w m) → wpList P l.toArray Q (l.drop n) a' w') (l.take n) a) : (Code.region id l.toArray true).wp P Q a w :=
  wp_region_class_tail (C := fun w' => ∃ m : LaterOf w, w' = later w m) n hm hB ⟨⟨_, below_drewN (Below.refl _ w) 1⟩, rfl⟩ h
end Go.Proofs.YticnmogeknlmeaaGreatDoor.Later
namespace Go.Proofs.YticnmogeknlmeaaGreatDoor.Later
open Go.RowKit
section
variable {P : Program} {ops : Array Oper} {md : Region.Mode} {C : World → Prop}
/-- From operation m on each of the head is waited for, up to the tail's first. -/
def sinkM (md : Region.Mode) (ops : Array Oper) (n m : Nat) : Bool :=
  (List.range n).all fun i => decide (i < m) || (List.range (n + 1)).any fun j => decide (i < j) && Region.waitsFor md ops j i
theorem tail_none {n m : Nat} {listed : Array Bool} (hs : sinkM md ops n m = true) (hc : Region.chainB md ops n = true) (hn : n < ops.size) (inv : HeadInv md ops n listed) :
    ∀ (d i : Nat), n - i ≤ d → m ≤ i → i < n → listed.getD i true = false → ∀ t, n ≤ t → t ∉ Region.ready md ops listed
  | 0, i, hd, _, hi, _, _, _, _ => by omega
  | d + 1, i, hd, hm, hi, hun, t, ht, hr => by
    obtain ⟨_, ot, hot, hall⟩ := mem_ready.1 hr
    have htl : t < ops.size := (Array.getElem?_eq_some_iff.1 hot).1
    by_cases htn : t = n
    · subst htn
      have h1 := List.all_eq_true.1 hs i (List.mem_range.2 hi)
      rw [Bool.or_eq_true] at h1
      rcases h1 with h1 | h1
      · have := of_decide_eq_true h1; omega
      · obtain ⟨j, hj, hj2⟩ := List.any_eq_true.1 h1
        simp only [Bool.and_eq_true, decide_eq_true_eq] at hj2
        obtain ⟨oj, hoj, e, he, hb, hon⟩ := Region.waitsFor_spec hj2.2
        have hjt : j ≤ t := by have := List.mem_range.1 hj; omega
        by_cases hjeq : j = t
        · subst hjeq
          have e1 : oj = ot := Option.some.inj (hoj.symm.trans hot)
          subst e1
          have := hall e he hb
          rw [hon, getD_both hun] at this
          cases this
        · have hjun : listed.getD j true = false := by
            have hjl : j < listed.size := by rw [inv.size]; omega
            refine getD_in hjl ?_
            cases hl : listed.getD j false with
            | false => rfl
            | true =>
              have := inv.closed j oj hoj hl e he hb
              rw [hon, getD_both hun] at this
              cases this
          exact tail_none hs hc hn inv d j (by omega) (by omega) (by omega) hjun t (Nat.le_refl _) hr
    · have h1 := List.all_eq_true.1 hc t (List.mem_range.2 htl)
      rw [Bool.or_eq_true] at h1
      rcases h1 with h1 | h1
      · have := of_decide_eq_true h1; omega
      · obtain ⟨oj, hoj, e, he, hb, hon⟩ := Region.waitsFor_spec h1
        have e1 : oj = ot := Option.some.inj (hoj.symm.trans hot)
        subst e1
        have h2 := hall e he hb
        rw [hon, getD_both (inv.tail (t - 1) (by omega) (by omega))] at h2
        cases h2
theorem head_firstM {n m i : Nat} {oi : Oper} {v : Value} {L : Array Bool → Act → Prop} (hi : ops[i]? = some oi) (hsel : ∀ (j : Nat) (o : Oper) cs b, ops[j]? = some o → o.op ≠ .select cs b)
    (hs : sinkM md ops n m = true) (hc : Region.chainB md ops n = true) (hn : n < ops.size) (hin : i < n) (him : m ≤ i) (hdone : ∀ listed a, L listed a → ∀ j ∈ Region.ready md ops listed, n ≤ j) (f : Nat) :
    ∀ (listed : Array Bool) (a : Act), HeadInv md ops n listed → (∀ j oj, ops[j]? = some oj → j ≠ i → listed.getD j true = false → (∀ e ∈ oj.after, Region.binds md e = true → e.on ≠ i) → oi.apart ops oj = true) →
      i ∈ Region.ready md ops listed → YieldsIn P ops C oi v a → anyHead P md ops C n L f (listed.setIfInBounds i true) (a.put oi.dst v) → anyHead P md ops C n L (f + 1) listed a := by
  have below : ∀ {listed : Array Bool} {j : Nat}, HeadInv md ops n listed → i ∈ Region.ready md ops listed → j ∈ Region.ready md ops listed → j < n := fun {listed j} inv hr hj => by
    rcases Nat.lt_or_ge j n with h | h
    · exact h
    · exact absurd hj (tail_none hs hc hn inv _ i (Nat.le_refl _) him hin (mem_ready.1 hr).1 j h)
  have some_ready : ∀ {listed : Array Bool}, i ∈ Region.ready md ops listed → Region.ready md ops listed ≠ [] := fun hr h => by rw [h] at hr; cases hr
  induction f with
  | zero =>
    intro listed a inv _ hr hy H
    refine ⟨some_ready hr, fun j hj => ⟨below inv hr hj, ?_⟩⟩
    by_cases hji : j = i
    · subst hji; exact hy.qOp hi H
    · have h1 := hdone _ _ H j (ready_mono hj hji)
      have h2 := below inv hr hj
      omega
  | succ f ih =>
    intro listed a inv hfree hr hy H
    refine ⟨some_ready hr, fun j hj => ⟨below inv hr hj, ?_⟩⟩
    by_cases hji : j = i
    · subst hji; exact hy.qOp hi H
    · obtain ⟨hjun, oj, hoj, hall⟩ := mem_ready.1 hj
      have hnot : ∀ e ∈ oj.after, Region.binds md e = true → e.on ≠ i := fun e he hb heq => by
        have h1 := hall e he hb
        rw [heq, getD_both (mem_ready.1 hr).1] at h1
        cases h1
      have h2 := qOp_put hoj (hfree j oj hoj hji hjun hnot) (fun cs b => hsel i oi cs b hi) (fun cs b => hsel j oj cs b hoj) hy (H.2 j (ready_mono hj hji)).2
      refine qOp_mono (fun a' h3 => ih (listed.setIfInBounds j true) a' (inv.set hj (below inv hr hj)) (fun k ok hk hki hun hno => hfree k ok hk hki ?_ hno) (ready_mono hr (Ne.symm hji)) h3.1 ?_) h2
      · by_cases hjk : j = k
        · subst hjk; exact hjun
        · rw [getD_set_ne true hjk] at hun; exact hun
      · rw [Array.setIfInBounds_comm _ _ hji]
        exact h3.2
theorem head_lexM {n m g : Nat} {Lq : Act → Prop} (hsel : Region.noSelect ops = true) (hs : sinkM md ops n m = true) (hc : Region.chainB md ops n = true) (hn : n < ops.size) :
    ∀ (l : List Oper) (k : Nat) (listed : Array Bool) (a : Act), m ≤ k → (∀ j, j < l.length → l[j]? = ops[k + j]?) → k + l.length = n → HeadInv md ops n listed → Region.lexHead md ops g l.length k listed = true → wpQuiet P ops C Lq l a →
    anyHead P md ops C n (fun listed' a' => Region.seqB md ops g n listed' = true ∧ Lq a') l.length listed a
  | [], k, listed, a, _, _, hk, _, hB, h => by
    obtain rfl : k = n := by simpa using hk
    exact ⟨by simpa [Region.lexHead] using hB, h⟩
  | o :: l, k, listed, a, hmk, hl, hk, inv, hB, h => by
    have h0 : ops[k]? = some o := by simpa using (hl 0 (by simp)).symm
    simp only [List.length_cons, Region.lexHead, Bool.and_eq_true] at hB hk
    obtain ⟨⟨hr, hf⟩, hB'⟩ := hB
    have hkn : k < n := by omega
    have hr' : k ∈ Region.ready md ops listed := by simpa using hr
    have hq : qOp P ops C k (wpQuiet P ops C Lq l) a := by unfold qOp; simp only [h0]; exact h
    obtain ⟨v, hy, hK⟩ := yieldsIn_of_qOp h0 hq
    exact head_firstM h0 (Region.noSelect_spec hsel) hs hc hn hkn hmk (fun _ _ hL => seqB_ready hL.1) l.length listed a inv (Region.free_spec h0 hf) hr' hy
      (head_lexM hsel hs hc hn l (k + 1) _ _ (by omega) (fun j hj => by have := hl (j + 1) (by simp; omega); simpa [Nat.add_assoc, Nat.add_comm 1 j] using this) (by omega) (inv.set hr' hkn) hB' hK)
/-- The first operation has been taken; of the rest the head is quiet. -/
theorem wp_region_quiet_skip {id : Nat} {Q : Exit → Act → World → Prop} {a : Act} {w : World} {o : Oper} {l : List Oper} (v : Value) (n : Nat) (hm : P.follows .mixedOrders = true)
    (h1 : Region.noSelect (o :: l).toArray = true) (h2 : n < l.length) (h3 : sinkM .any (o :: l).toArray (n + 1) 1 = true) (h4 : Region.chainB .any (o :: l).toArray (n + 1) = true)
    (h5 : Region.lexHead .any (o :: l).toArray (l.length - n) n 1 ((Array.replicate (o :: l).toArray.size false).setIfInBounds 0 true) = true)
    (h6 : Region.free .any (o :: l).toArray (Array.replicate (o :: l).toArray.size false) 0 = true) (h7 : (Region.ready .any (o :: l).toArray (Array.replicate (o :: l).toArray.size false)).contains 0 = true)
    (h8 : ∀ c a w, Q (.panic c) (a.put o.dst v) w → Q (.panic c) a w) (h9 : Yields P (o :: l).toArray o v a)
    (h : wpQuiet P (o :: l).toArray (fun w' => ∃ m : Nat, w' = w.drewN m) (fun a' => ∀ w', (∃ m : Nat, w' = w.drewN m) → wpList P (o :: l).toArray Q (l.drop n) a' w') (l.take n) (a.put o.dst v)) : (Code.region id (o :: l).toArray true).wp P Q a w := by
  refine wp_region_any hm ?_
  have hsz : (o :: l).toArray.size = l.length + 1 := by simp
  have hgo : wpAny P .any (o :: l).toArray Q l.length ((Array.replicate (o :: l).toArray.size false).setIfInBounds 0 true) (a.put o.dst v) { w with drawn := w.drawn + 1 } := by
    have htl : (l.take n).length = n := by simp; omega
    have hdl : (l.drop n).length = l.length - n := by simp
    have inv0 : HeadInv .any (o :: l).toArray (n + 1) ((Array.replicate (o :: l).toArray.size false).setIfInBounds 0 true) := by
      refine ⟨by simp, fun j oj hj hl e he hb => ?_, fun t ht ht' => ?_⟩
      · by_cases hj0 : 0 = j
        · subst hj0
          have hr : 0 ∈ Region.ready .any (o :: l).toArray (Array.replicate (o :: l).toArray.size false) := by simpa using h7
          obtain ⟨_, o0, ho0, hall⟩ := mem_ready.1 hr
          have e1 : oj = o0 := Option.some.inj (hj.symm.trans ho0)
          subst e1
          have := hall e he hb
          rw [getD_replicate_false] at this
          cases this
        · rw [getD_set_ne false hj0, getD_replicate_false] at hl
          cases hl
      · rw [getD_set_ne true (by omega)]
        exact getD_in (by simpa using ht') (getD_replicate_false _ _)
    have H := head_lexM (md := .any) (g := l.length - n) (m := 1) h1 h3 h4 (by rw [hsz]; omega) (l.take n) 1 _ (a.put o.dst v) (Nat.le_refl _) (fun j hj => by
      have hj' : j < n := by rw [htl] at hj; exact hj
      simp [hj', Nat.add_comm 1 j]) (by rw [htl]; omega) inv0 (by rw [htl]; exact h5) h
    have := any_of_head (Q := Q) (g := l.length - n) (fun listed a' w' hw' hL => by
      have := wpAny_of_seq (md := .any) (Q' := Q) (l.drop n) (n + 1) listed a' w' (fun j => by simp only [List.getElem?_drop, List.getElem?_toArray]; rw [show n + 1 + j = (n + j) + 1 by omega, List.getElem?_cons_succ]) (by rw [hdl]; exact hL.1) (hL.2 w' hw')
      rwa [hdl] at this) _ _ _ { w with drawn := w.drawn + 1 } ⟨1, rfl⟩ H
    rw [htl, show n + (l.length - n) = l.length by omega] at this
    exact this
  rw [show (o :: l).toArray.size = l.length + 1 from hsz]
  rw [hsz] at hgo h6 h7
  exact wpAny_take (i := 0) (v := v) (by simp) h1 h6 h7 h8 h9 hgo
end
end Go.Proofs.YticnmogeknlmeaaGreatDoor.Later
namespace Go.Proofs.YticnmogeknlmeaaGreatDoor.Later
open Go.RowKit
section
variable {P : Program} {C : World → Prop}
/-- The first operation has been taken; of the rest the head is quiet. -/
theorem wp_region_class_skip {id : Nat} {Q : Exit → Act → World → Prop} {a : Act} {w : World} {o : Oper} {l : List Oper} (v : Value) (n : Nat) (hm : P.follows .mixedOrders = true)
    (h1 : Region.noSelect (o :: l).toArray = true) (h2 : n < l.length) (h3 : sinkM .any (o :: l).toArray (n + 1) 1 = true) (h4 : Region.chainB .any (o :: l).toArray (n + 1) = true)
    (h5 : Region.lexHead .any (o :: l).toArray (l.length - n) n 1 ((Array.replicate (o :: l).toArray.size false).setIfInBounds 0 true) = true)
    (h6 : Region.free .any (o :: l).toArray (Array.replicate (o :: l).toArray.size false) 0 = true) (h7 : (Region.ready .any (o :: l).toArray (Array.replicate (o :: l).toArray.size false)).contains 0 = true)
    (h8 : ∀ c a w, Q (.panic c) (a.put o.dst v) w → Q (.panic c) a w) (h9 : Yields P (o :: l).toArray o v a) (hC : C { w with drawn := w.drawn + 1 })
    (h : wpQuiet P (o :: l).toArray C (fun a' => ∀ w', C w' → wpList P (o :: l).toArray Q (l.drop n) a' w') (l.take n) (a.put o.dst v)) : (Code.region id (o :: l).toArray true).wp P Q a w := by
  refine wp_region_any hm ?_
  have hsz : (o :: l).toArray.size = l.length + 1 := by simp
  have hgo : wpAny P .any (o :: l).toArray Q l.length ((Array.replicate (o :: l).toArray.size false).setIfInBounds 0 true) (a.put o.dst v) { w with drawn := w.drawn + 1 } := by
    have htl : (l.take n).length = n := by simp; omega
    have hdl : (l.drop n).length = l.length - n := by simp
    have inv0 : HeadInv .any (o :: l).toArray (n + 1) ((Array.replicate (o :: l).toArray.size false).setIfInBounds 0 true) := by
      refine ⟨by simp, fun j oj hj hl e he hb => ?_, fun t ht ht' => ?_⟩
      · by_cases hj0 : 0 = j
        · subst hj0
          have hr : 0 ∈ Region.ready .any (o :: l).toArray (Array.replicate (o :: l).toArray.size false) := by simpa using h7
          obtain ⟨_, o0, ho0, hall⟩ := mem_ready.1 hr
          have e1 : oj = o0 := Option.some.inj (hj.symm.trans ho0)
          subst e1
          have := hall e he hb
          rw [getD_replicate_false] at this
          cases this
        · rw [getD_set_ne false hj0, getD_replicate_false] at hl
          cases hl
      · rw [getD_set_ne true (by omega)]
        exact getD_in (by simpa using ht') (getD_replicate_false _ _)
    have H := head_lexM (md := .any) (g := l.length - n) (m := 1) h1 h3 h4 (by rw [hsz]; omega) (l.take n) 1 _ (a.put o.dst v) (Nat.le_refl _) (fun j hj => by
      have hj' : j < n := by rw [htl] at hj; exact hj
      simp [hj', Nat.add_comm 1 j]) (by rw [htl]; omega) inv0 (by rw [htl]; exact h5) h
    have := any_of_head (Q := Q) (g := l.length - n) (fun listed a' w' hw' hL => by
      have := wpAny_of_seq (md := .any) (Q' := Q) (l.drop n) (n + 1) listed a' w' (fun j => by simp only [List.getElem?_drop, List.getElem?_toArray]; rw [show n + 1 + j = (n + j) + 1 by omega, List.getElem?_cons_succ]) (by rw [hdl]; exact hL.1) (hL.2 w' hw')
      rwa [hdl] at this) _ _ _ { w with drawn := w.drawn + 1 } hC H
    rw [htl, show n + (l.length - n) = l.length by omega] at this
    exact this
  rw [show (o :: l).toArray.size = l.length + 1 from hsz]
  rw [hsz] at hgo h6 h7
  exact wpAny_take (i := 0) (v := v) (by simp) h1 h6 h7 h8 h9 hgo
theorem wp_region_later_skip {id : Nat} {Q : Exit → Act → World → Prop} {a : Act} {w : World} {o : Oper} {l : List Oper} (v : Value) (n : Nat) (hm : P.follows .mixedOrders = true)
    (h1 : Region.noSelect (o :: l).toArray = true) (h2 : n < l.length) (h3 : sinkM .any (o :: l).toArray (n + 1) 1 = true) (h4 : Region.chainB .any (o :: l).toArray (n + 1) = true)
    (h5 : Region.lexHead .any (o :: l).toArray (l.length - n) n 1 ((Array.replicate (o :: l).toArray.size false).setIfInBounds 0 true) = true)
    (h6 : Region.free .any (o :: l).toArray (Array.replicate (o :: l).toArray.size false) 0 = true) (h7 : (Region.ready .any (o :: l).toArray (Array.replicate (o :: l).toArray.size false)).contains 0 = true)
    (h8 : ∀ c a w, Q (.panic c) (a.put o.dst v) w → Q (.panic c) a w) (h9 : Yields P (o :: l).toArray o v a)
    (h : wpQuiet P (o :: l).toArray (fun w' => ∃ m : LaterOf w, w' = later w m) (fun a' => ∀ w', (∃ m : LaterOf w, w' = later w m) → wpList P (o :: l).toArray Q (l.drop n) a' w') (l.take n) (a.put o.dst v)) : (Code.region id (o :: l).toArray true).wp P Q a w :=
  wp_region_class_skip (C := fun w' => ∃ m : LaterOf w, w' = later w m) v n hm h1 h2 h3 h4 h5 h6 h7 h8 h9 ⟨⟨_, below_drewN (Below.refl _ w) 1⟩, rfl⟩ h
end
end Go.Proofs.YticnmogeknlmeaaGreatDoor.Later
