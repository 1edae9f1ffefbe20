/- Helper: a statement whose order is open: reads, and what makes something new; then one operation that may change something; then what only reads: one walk serves every order. No condition. -/
import Derived.Test.YteilmbhnbmmcjaaLaterTail
namespace Go.Proofs.Yteilmbhnbmmcjaa.Later
open Go.RowKit
section
variable {P : Program} {ops : Array Oper} {md : Region.Mode} {C : World → Prop}
/-- Each operation behind the n-th waits for that one, or for one between. -/
def afterB (md : Region.Mode) (ops : Array Oper) (n : Nat) : Bool := (List.range ops.size).all fun t => decide (t ≤ n) || (List.range t).any fun s => decide (n ≤ s) && Region.waitsFor md ops t s
theorem after_waits {n : Nat} {listed : Array Bool} (hs : Region.sinkB md ops n = true) (hc : afterB md ops n = true) (inv : HeadInv md ops n listed) :
    ∀ (d i : Nat), n - i = d → i < n → listed.getD i true = false → ∀ t, n ≤ t → t ∉ Region.ready md ops listed := by
  intro d
  induction d using Nat.strongRecOn with
  | _ d ih =>
    intro i hd hi hun t ht hr
    obtain ⟨_, ot, hot, hall⟩ := mem_ready.1 hr
    have htlt : t < ops.size := (Array.getElem?_eq_some_iff.1 hot).1
    by_cases htn : t = n
    · subst htn
      obtain ⟨j, hj, hj2⟩ := List.any_eq_true.1 (List.all_eq_true.1 hs i (List.mem_range.2 hi))
      simp only [Bool.and_eq_true, decide_eq_true_eq] at hj2
      obtain ⟨oj, hoj, e, he, hb, hon⟩ := Region.waitsFor_spec hj2.2
      have hjle : j ≤ t := by have := List.mem_range.1 hj; omega
      by_cases hjt : j = t
      · subst hjt
        obtain rfl : oj = ot := Option.some.inj (hoj.symm.trans hot)
        have h2 := hall e he hb
        rw [hon, getD_both hun] at h2
        cases h2
      · cases hl : listed.getD j false with
        | true =>
          have h2 := inv.closed j oj hoj hl e he hb
          rw [hon, getD_both hun] at h2
          cases h2
        | false =>
          have hjs : j < listed.size := by rw [inv.size]; omega
          exact ih (t - j) (by omega) j rfl (by omega) (getD_in hjs hl) t (Nat.le_refl _) hr
    · have h1 := List.all_eq_true.1 hc t (List.mem_range.2 htlt)
      simp only [Bool.or_eq_true, decide_eq_true_eq] at h1
      rcases h1 with h1 | h1
      · omega
      · obtain ⟨s, hs1, hs2⟩ := List.any_eq_true.1 h1
        simp only [Bool.and_eq_true, decide_eq_true_eq] at hs2
        obtain ⟨o', ho', e, he, hb, hon⟩ := Region.waitsFor_spec hs2.2
        obtain rfl : o' = ot := Option.some.inj (ho'.symm.trans hot)
        have h2 := hall e he hb
        have hst := List.mem_range.1 hs1
        rw [hon, getD_both (inv.tail s hs2.1 (by omega))] at h2
        cases h2
theorem head_first2 {n i : Nat} {oi : Oper} {v : Value} {L : Array Bool → Act → Prop} (hi : ops[i]? = some oi) (hsel : ∀ (j : Nat) (o : Oper) cs b, ops[j]? = some o → o.op ≠ .select cs b)
    (hs : Region.sinkB md ops n = true) (hc : afterB md ops n = true) (hin : i < n) (hdone : ∀ listed a, L listed a → ∀ j ∈ Region.ready md ops listed, n ≤ j) (f : Nat) :
    ∀ (listed : Array Bool) (a : Act), HeadInv md ops n listed → (∀ j oj, ops[j]? = some oj → j ≠ i → listed.getD j true = false → (∀ e ∈ oj.after, Region.binds md e = true → e.on ≠ i) → oi.apart ops oj = true) →
      i ∈ Region.ready md ops listed → YieldsIn P ops C oi v a → anyHead P md ops C n L f (listed.setIfInBounds i true) (a.put oi.dst v) → anyHead P md ops C n L (f + 1) listed a := by
  have below : ∀ {listed : Array Bool} {j : Nat}, HeadInv md ops n listed → i ∈ Region.ready md ops listed → j ∈ Region.ready md ops listed → j < n := fun {listed j} inv hr hj => by
    rcases Nat.lt_or_ge j n with h | h
    · exact h
    · exact absurd hj (after_waits hs hc inv _ i rfl hin (mem_ready.1 hr).1 j h)
  have some_ready : ∀ {listed : Array Bool}, i ∈ Region.ready md ops listed → Region.ready md ops listed ≠ [] := fun hr h => by rw [h] at hr; cases hr
  induction f with
  | zero =>
    intro listed a inv _ hr hy H
    refine ⟨some_ready hr, fun j hj => ⟨below inv hr hj, ?_⟩⟩
    by_cases hji : j = i
    · subst hji; exact hy.qOp hi H
    · have h1 := hdone _ _ H j (ready_mono hj hji)
      have h2 := below inv hr hj
      omega
  | succ f ih =>
    intro listed a inv hfree hr hy H
    refine ⟨some_ready hr, fun j hj => ⟨below inv hr hj, ?_⟩⟩
    by_cases hji : j = i
    · subst hji; exact hy.qOp hi H
    · obtain ⟨hjun, oj, hoj, hall⟩ := mem_ready.1 hj
      have hnot : ∀ e ∈ oj.after, Region.binds md e = true → e.on ≠ i := fun e he hb heq => by
        have h1 := hall e he hb
        rw [heq, getD_both (mem_ready.1 hr).1] at h1
        cases h1
      have h2 := qOp_put hoj (hfree j oj hoj hji hjun hnot) (fun cs b => hsel i oi cs b hi) (fun cs b => hsel j oj cs b hoj) hy (H.2 j (ready_mono hj hji)).2
      refine qOp_mono (fun a' h3 => ih (listed.setIfInBounds j true) a' (inv.set hj (below inv hr hj)) (fun k ok hk hki hun hno => hfree k ok hk hki ?_ hno) (ready_mono hr (Ne.symm hji)) h3.1 ?_) h2
      · by_cases hjk : j = k
        · subst hjk; exact hjun
        · rw [getD_set_ne true hjk] at hun; exact hun
      · rw [Array.setIfInBounds_comm _ _ hji]
        exact h3.2
/-- Behind the head: the n-th alone, then the rest in the order of the text. -/
def midB (md : Region.Mode) (ops : Array Oper) (n : Nat) (listed : Array Bool) : Bool := decide (Region.ready md ops listed = [n]) && Region.lexFrom md ops (ops.size - n - 1) (n + 1) (listed.setIfInBounds n true)
def headB (md : Region.Mode) (ops : Array Oper) (n : Nat) : Nat → Nat → Array Bool → Bool
  | 0, _, listed => midB md ops n listed
  | f + 1, k, listed => (Region.ready md ops listed).contains k && Region.free md ops listed k && headB md ops n f (k + 1) (listed.setIfInBounds k true)
def callB (md : Region.Mode) (ops : Array Oper) (n : Nat) : Bool := Region.noSelect ops && decide (n < ops.size) && Region.sinkB md ops n && afterB md ops n && headB md ops n n 0 (Array.replicate ops.size false)
theorem midB_ready {n : Nat} {listed : Array Bool} (h : midB md ops n listed = true) : ∀ j ∈ Region.ready md ops listed, n ≤ j := by
  intro j hj
  simp only [midB, Bool.and_eq_true, decide_eq_true_eq] at h
  rw [h.1] at hj
  have : j = n := by simpa using hj
  omega
theorem head_lex2 {n : Nat} {Lq : Act → Prop} (hsel : Region.noSelect ops = true) (hs : Region.sinkB md ops n = true) (hc : afterB md ops n = true) :
    ∀ (l : List Oper) (k : Nat) (listed : Array Bool) (a : Act), (∀ j, j < l.length → l[j]? = ops[k + j]?) → k + l.length = n → HeadInv md ops n listed → headB md ops n l.length k listed = true → wpQuiet P ops C Lq l a →
    anyHead P md ops C n (fun listed' a' => midB md ops n listed' = true ∧ Lq a') l.length listed a
  | [], k, listed, a, _, hk, _, hB, h => by
    obtain rfl : k = n := by simpa using hk
    exact ⟨by simpa [headB] using hB, h⟩
  | o :: l, k, listed, a, hl, hk, inv, hB, h => by
    have h0 : ops[k]? = some o := by simpa using (hl 0 (by simp)).symm
    simp only [List.length_cons, headB, Bool.and_eq_true] at hB hk
    obtain ⟨⟨hr, hf⟩, hB'⟩ := hB
    have hkn : k < n := by omega
    have hr' : k ∈ Region.ready md ops listed := by simpa using hr
    have hq : qOp P ops C k (wpQuiet P ops C Lq l) a := by unfold qOp; simp only [h0]; exact h
    obtain ⟨v, hy, hK⟩ := yieldsIn_of_qOp h0 hq
    exact head_first2 h0 (Region.noSelect_spec hsel) hs hc hkn (fun _ _ hL => midB_ready hL.1) l.length listed a inv (Region.free_spec h0 hf) hr' hy
      (head_lex2 hsel hs hc l (k + 1) _ _ (fun j hj => by have := hl (j + 1) (by simp; omega); simpa [Nat.add_assoc, Nat.add_comm 1 j] using this) (by omega) (inv.set hr' hkn) hB' hK)
/-- What is asked behind one operation, and otherwise as ever. -/
def Behind (N : Act → World → Prop) (Q : Exit → Act → World → Prop) : Exit → Act → World → Prop
  | .normal, a, w => N a w
  | x, a, w => Q x a w
theorem letsOut_behind {N : Act → World → Prop} {Q : Exit → Act → World → Prop} (h : LetsOut (Behind N Q)) : LetsOut Q := h
theorem wp_behind {o : Oper} {a : Act} {w : World} {N K : Act → World → Prop} {Q : Exit → Act → World → Prop} (hK : ∀ a w, N a w → K a w) (h : o.wp P a w N (Behind N Q)) : o.wp P a w K Q := by
  unfold Oper.wp at *
  generalize (execOp a.eval o).run P w = r at *
  cases r with
  | ok n w' =>
    cases n <;> simp only [Oper.upon] at h ⊢
    case value => exact hK _ _ h
    case skip => exact hK _ _ h
    case defer => exact hK _ _ h
    case enter f args =>
      refine h.mono fun e w'' he => ?_
      cases e with
      | returned v => exact hK _ _ he
      | panicked chain => exact he
      | outgrown => exact letsOut_behind he
    case row r args =>
      exact Rows.mono h fun v w'' hv => hK _ _ hv
  | halt x w' =>
    cases x <;> simp only [Oper.upon] at h ⊢
    exact h
theorem op_behind {o : Oper} {n : Nat} (h0 : ops[n]? = some o) {a : Act} {w : World} {N K : Act → World → Prop} {Q : Exit → Act → World → Prop} (hK : ∀ a w, N a w → K a w) (h : wpList P ops (Behind N Q) [o] a w) : wpOp P ops Q n K a w := by
  unfold wpOp
  simp only [h0]
  unfold wpList at h
  split
  · rename_i hw
    rw [if_pos hw] at h
    rcases h with h | h
    · exact .inl (wp_behind hK h)
    · exact .inr ⟨h.1, letsOut_behind h.2⟩
  · rename_i hw
    rw [if_neg hw] at h
    exact hK _ _ h
/-- What only reads, in whatever order, in the world that the one operation left. -/
def Rest (P : Program) (ops : Array Oper) (l : List Oper) (Q : Exit → Act → World → Prop) (a : Act) (w : World) : Prop := wpQuiet P ops (fun u => ∃ k, u = w.drewN k) (fun a' => ∀ u, (∃ k, u = w.drewN k) → Q .normal a' u) l a
theorem wp_region_class_call {id : Nat} {Q : Exit → Act → World → Prop} {a : Act} {w : World} {l : List Oper} (n : Nat) (o : Oper) (ho : l[n]? = some o) (hm : P.follows .mixedOrders = true) (hB : callB .any l.toArray n = true) (hC : C { w with drawn := w.drawn + 1 })
    (h : wpQuiet P l.toArray C (fun a' => ∀ w', C w' → wpList P l.toArray (Behind (Rest P l.toArray (l.drop (n + 1)) Q) Q) [o] a' w') (l.take n) a) : (Code.region id l.toArray true).wp P Q a w := by
  simp only [callB, Bool.and_eq_true, decide_eq_true_eq] at hB
  obtain ⟨⟨⟨⟨hsel, hn⟩, hs⟩, hc⟩, hlex⟩ := hB
  have hn' : n < l.length := by simpa using hn
  have htl : (l.take n).length = n := by simp; omega
  have h0 : l.toArray[n]? = some o := by simpa using ho
  have inv0 : HeadInv .any l.toArray n (Array.replicate l.toArray.size false) :=
    ⟨by simp, fun j oj _ hl => (by rw [getD_replicate_false] at hl; cases hl), fun t _ ht => getD_in (by simpa using ht) (getD_replicate_false _ _)⟩
  have H := head_lex2 (md := .any) hsel hs hc (l.take n) 0 _ a (fun j hj => by
    have hj' : j < n := by rw [htl] at hj; exact hj
    simp [hj']) (by simpa using htl) inv0 (by rw [htl]; exact hlex) h
  have hdl : (l.drop (n + 1)).length = l.toArray.size - n - 1 := by simp; omega
  refine wp_region_any hm ?_
  have := any_of_head (Q := Q) (g := l.toArray.size - n) (fun listed a' w' hw' hL => by
    obtain ⟨hm1, hm2⟩ := hL
    simp only [midB, Bool.and_eq_true, decide_eq_true_eq] at hm1
    rw [show l.toArray.size - n = (l.toArray.size - n - 1) + 1 by omega]
    refine ⟨fun h1 => (by rw [hm1.1] at h1; cases h1), fun i hi => ?_⟩
    rw [hm1.1] at hi
    obtain rfl : i = n := by simpa using hi
    refine op_behind h0 (fun a2 w2 hr => ?_) (hm2 w' hw')
    refine wpAny_of_quiet (C := fun u => ∃ k, u = w2.drewN k) (Q := fun a' => ∀ u, (∃ k, u = w2.drewN k) → Q .normal a' u) (fun _ u hu hq => hq u hu) _ _ _ w2 ⟨0, rfl⟩ ?_
    have h5 := wpAnyQ_lex (C := fun u => ∃ k, u = w2.drewN k) (md := .any) hsel (l.drop (i + 1)) (i + 1) (listed.setIfInBounds i true) a2 (fun j => by simp [List.getElem?_drop]) (by rw [hdl]; exact hm1.2) hr
    rwa [hdl] at h5) _ _ _ _ hC H
  rw [htl, show n + (l.toArray.size - n) = l.toArray.size by omega] at this
  exact this
end
theorem wp_region_later_call {P : Program} {id : Nat} {Q : Exit → Act → World → Prop} {a : Act} {w : World} {l : List Oper} (n : Nat) (o : Oper) (ho : l[n]? = some o) (hm : P.follows .mixedOrders = true) (hB : callB .any l.toArray n = true)
    (h : wpQuiet P l.toArray (fun w' => ∃ m : LaterOf w, w' = later w m) (fun a' => ∀ w', (∃ m : LaterOf w, w' = later w m) → wpList P l.toArray (Behind (Rest P l.toArray (l.drop (n + 1)) Q) Q) [o] a' w') (l.take n) a) : (Code.region id l.toArray true).wp P Q a w :=
  wp_region_class_call (C := fun w' => ∃ m : LaterOf w, w' = later w m) n o ho hm hB ⟨⟨_, below_drewN (Below.refl _ w) 1⟩, rfl⟩ h
theorem rest_open {P : Program} {ops : Array Oper} {l : List Oper} {Q : Exit → Act → World → Prop} {a : Act} {w : World} (h : wpQuiet P ops (fun u => ∃ k, u = w.drewN k) (fun a' => ∀ u, (∃ k, u = w.drewN k) → Q .normal a' u) l a) : Behind (Rest P ops l Q) Q .normal a w := h
end Go.Proofs.Yteilmbhnbmmcjaa.Later
