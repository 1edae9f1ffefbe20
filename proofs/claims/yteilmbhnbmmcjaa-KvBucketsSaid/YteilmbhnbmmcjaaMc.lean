/- Helper: a range over a map keyed by an int; how many keys a map may have. No condition. -/
import Derived.Test.YteilmbhnbmmcjaaMb
namespace Go.Proofs.Yteilmbhnbmmcjaa.B
open Go.RowKit Go.Maps Go.Proofs.YteilmbhnbmmcjaaW.PrintWords
theorem len_le (lo : Int) : ∀ (q : Nat) (l : List Int), l.Nodup → (∀ x ∈ l, lo ≤ x ∧ x < lo + q) → l.length ≤ q
  | 0, [], _, _ => Nat.le_refl _
  | 0, x :: l, _, h => by have := h x (by simp); omega
  | q + 1, l, hn, h => by
    have h1 := len_le lo q (l.erase (lo + q)) (hn.erase _) (fun x hx => by
      rw [hn.mem_erase_iff] at hx
      have := h x hx.2
      have := hx.1
      omega)
    have := List.length_erase (a := lo + q) (l := l)
    split at this <;> omega
section
variable {α : Type} {c : Cod α} {w w' : World} {b n r cnt : Nat} {f : Int → Option α} {left : Int → Bool}
theorem keys_int {D : DataW α} (h : w.ownsMap Try.prog 3 c.R b n D) : ∃ es : List (Lit × DataW α), D = .map es ∧ es.Pairwise (fun p q => p.1 ≠ q.1) ∧ ∀ p ∈ es, ∃ k, p.1 = kl k ∧ I64 k ∧ has D (kl k) = true := by
  have ht := h.tidy law3
  obtain ⟨es, clock, hb, F, hs, rfl⟩ := h
  refine ⟨_, rfl, ?_, fun p hp => ?_⟩
  · obtain ⟨es', e, hp⟩ := ht
    injection e with e
    rw [e]
    exact hp
  · have hp' := hp
    obtain ⟨x, hx, rfl⟩ := List.mem_map.1 (mem_sorted.1 hp)
    obtain ⟨y, hy⟩ := F.reads x hx
    have h1 : (WideElems.rg Try.prog 3 c.R x).1 = y.1 := by rw [WideElems.rg_of hy]
    obtain ⟨k, _, hk, hw⟩ := Maps.keyOf_int_inv und3 (WideElems.rd_key hy)
    have hw' : I64 k := by
      have : (decide (IntKind.i64.min ≤ k) && decide (k ≤ IntKind.i64.max)) = true := hw
      simp [IntKind.min, IntKind.max, IntKind.signed, IntKind.bits] at this
      exact this
    refine ⟨k, by rw [h1, hk]; rfl, hw', ?_⟩
    refine List.any_eq_true.2 ⟨_, hp', ?_⟩
    rw [h1, hk]
    exact WideAt.sameKey_self (kl_key hw')
theorem MapAt.size_dom {D : DataW α} (h1 : w.ownsMap Try.prog 3 c.R b n D) (h2 : Holds D f) {lo : Int} {q : Nat} (hd : ∀ k, I64 k → f k ≠ none → lo ≤ k ∧ k < lo + q) : Maps.size D ≤ q := by
  obtain ⟨es, rfl, hp, hk⟩ := keys_int h1
  have hget : ∀ p ∈ es, ∃ k, p.1 = kl k ∧ lo ≤ k ∧ k < lo + q := fun p hp => by
    obtain ⟨k, e, hi, hh⟩ := hk p hp
    exact ⟨k, e, hd k hi (fun hn => by rw [(h2 k hi).2 hn] at hh; cases hh)⟩
  let g : Lit → Int := fun l => match l with | .int _ k => k | _ => 0
  have := len_le lo q (es.map fun p => g p.1) (by
    refine List.pairwise_map.2 (hp.imp_of_mem (fun {p p'} m m' hne e => hne ?_))
    obtain ⟨k, e1, _⟩ := hget p m
    obtain ⟨k', e2, _⟩ := hget p' m'
    rw [e1, e2] at e ⊢
    have : k = k' := e
    rw [this]) (fun x hx => by
    obtain ⟨p, hp, rfl⟩ := List.mem_map.1 hx
    obtain ⟨k, e1, h⟩ := hget p hp
    rw [e1]
    exact h)
  rw [size_eq]
  simpa using this
theorem MapAt.tight (h : MapAt c w b n f) {lo : Int} {q : Nat} (hd : ∀ k, I64 k → f k ≠ none → lo ≤ k ∧ k < lo + q) : MapAt c w b q f := by
  obtain ⟨D, h1, h2⟩ := h
  refine ⟨D, ?_, h2⟩
  have hs := MapAt.size_dom h1 h2 hd
  obtain ⟨es, clock, hb, F, _, rfl⟩ := h1
  refine ⟨es, clock, hb, F, ?_, rfl⟩
  simpa [Maps.size, length_sorted] using hs
theorem MapAt.len {t e : TypeId} (h : MapAt c w b n f) (ht : Try.prog.underlying t = some (.map 3 e)) (ty : TypeId) : ∃ m : Nat, m ≤ n ∧ (Builtin.len_ #[t] ty #[.map (some b)]).run Try.prog w = .ok (.int .i64 m) w := by
  obtain ⟨D, h1, h2⟩ := h
  exact ⟨_, h1.size_le, h1.len ht ty⟩
/-- A range over map b, by the iterator r: who is left. -/
def RangeAt (c : Cod α) (w : World) (b r : Nat) (f : Int → Option α) (left : Int → Bool) (cnt : Nat) : Prop :=
  ∃ D n lf, w.ranges Try.prog 3 c.R b r n D lf cnt ∧ Holds D f ∧ ∀ k, I64 k → lf (kl k) = left k
theorem RangeAt.map (h : RangeAt c w b r f left cnt) : ∃ n, MapAt c w b n f := by
  obtain ⟨D, n, lf, h1, h2, _⟩ := h
  exact ⟨n, D, h1.owns, h2⟩
theorem RangeAt.left_eq (h : RangeAt c w b r f left cnt) : w.rangeLeft b r = cnt := by
  obtain ⟨D, n, lf, h1, _⟩ := h
  exact h1.left_eq
theorem RangeAt.lt (h : RangeAt c w b r f left cnt) : r < w.heap.size ∧ b < w.heap.size := by
  obtain ⟨D, n, lf, h1, _⟩ := h
  exact ⟨h1.lt, h1.owns.lt⟩
theorem RangeAt.kept (h : RangeAt c w b r f left cnt) (e1 : w'.heap[b]? = w.heap[b]?) (e2 : w'.heap[r]? = w.heap[r]?) : RangeAt c w' b r f left cnt := by
  obtain ⟨D, n, lf, ⟨es, clock, since, seen, c0, q1, q2, q3, q4, q5, q6⟩, h2⟩ := h
  exact ⟨D, n, lf, ⟨es, clock, since, seen, c0, e1.trans q1, q2, q3, q4, e2.trans q5, q6⟩, h2⟩
theorem RangeAt.below (h : RangeAt c w b r f left cnt) (hb : Below w.heap.size w w') : RangeAt c w' b r f left cnt := h.kept (hb.block b h.lt.2) (hb.block r h.lt.1)
theorem RangeAt.mut {S : Nat → Prop} (h : RangeAt c w b r f left cnt) (hm : Mut S w w') (h1 : ¬ S b) (h2 : ¬ S r) : RangeAt c w' b r f left cnt := h.kept (hm.block b h.lt.2 h1) (hm.block r h.lt.1 h2)
end
section
variable {α : Type} {c : Cod α} {P : Program} {w : World} {b n r cnt : Nat} {f : Int → Option α} {left : Int → Bool} {ops : Array Oper} {rest : List Oper} {o : Oper} {a : Act} {Q : Exit → Act → World → Prop}
theorem range_map (hg : o.guard = none) (m : Operand) (t : TypeId) (hop : o.op = Op.range t m) (e : TypeId) (ht : Try.prog.underlying t = some (.map 3 e)) (hm : a.eval m = .map (some b)) (h : MapAt c w b n f)
    (hK : ∀ w' cnt, cnt ≤ n → RangeAt c w' b w.heap.size f (fun k => (f k).isSome) cnt → Below w.heap.size w w' → w'.heap.size = w.heap.size + 1 → wpList Try.prog ops Q rest (a.put o.dst (.pointer (some ⟨w.heap.size, 0, none⟩))) w') :
    wpList Try.prog ops Q (o :: rest) a w := by
  obtain ⟨D, h1, h2⟩ := h
  refine wpList_range_own w hg m t hop 3 e law3 ht c.R b n D hm h1 (fun w' r1 r2 r3 => hK w' (Maps.size D) h1.size_le ⟨D, n, has D, r1, h2, fun k hk => ?_⟩ ⟨r2.os, r2.tape, r2.output, r2.size, fun i hi => r2.block i hi (by simp)⟩ r3)
  show has D (kl k) = (f k).isSome
  cases hf : f k with
  | none => exact (h2 k hk).2 hf
  | some u => exact ((h2 k hk).1 u hf).1
theorem next_map (hg : o.guard = none) (it : Operand) (hop : o.op = Op.next it false) (hit : a.eval it = .pointer (some ⟨r, 0, none⟩)) (h : RangeAt c w b r f left cnt)
    (hDone : (∀ k, I64 k → left k = false) → wpList Try.prog ops Q rest (a.put o.dst (.tuple #[.bool false])) w)
    (hMore : ∀ (x : Int) (v : α) (w' : World) (cnt' : Nat), I64 x → left x = true → f x = some v → RangeAt c w' b r f (fun z => left z && !(z == x)) cnt' → cnt' < cnt → Mut (fun i => i = r) w w' → w'.heap.size = w.heap.size →
      (Instr.entry (.pointer (some ⟨r, 0, none⟩))).run Try.prog w' = .ok (.tuple #[.int .i64 x, c.enc v]) w' → wpList Try.prog ops Q rest (a.put o.dst (.tuple #[.bool true, .int .i64 x, c.enc v])) w') :
    wpList Try.prog ops Q (o :: rest) a w := by
  obtain ⟨D, n, lf, h1, h2, h3⟩ := h
  refine wpList_next_ranges w hg it hop 3 law3 c.R (Value.int .i64) c.enc (fun key l hl => by obtain ⟨x, rfl, _⟩ := Maps.keyOf_int_inv und3 hl; exact ⟨x, rfl⟩) (fun v y hv => by obtain ⟨a, e, _⟩ := c.R_inv hv; exact ⟨a, e⟩) b r n D lf cnt hit h1
    (fun _ hl => hDone (fun k hk => by rw [← h3 k hk]; exact hl _)) ?_
  intro x v l y w' cnt' hkey hl hv hat hr hlt hgr hsz hen
  obtain ⟨x', ex, rfl, hw⟩ := Maps.keyOf_int_inv und3 hkey
  cases ex
  have hx : I64 x := by
    have : (decide (IntKind.i64.min ≤ x) && decide (x ≤ IntKind.i64.max)) = true := hw
    simp [IntKind.min, IntKind.max, IntKind.signed, IntKind.bits] at this
    exact this
  rw [c.R_enc] at hv
  obtain rfl := Option.some.inj hv
  have hf : f x = some v := by
    have hh : has D (kl x) = true := has_true_of_atKey hat
    cases hf : f x with
    | none => rw [(h2 x hx).2 hf] at hh; cases hh
    | some u =>
      have e1 := ((h2 x hx).1 u hf).2 .nil
      have e2 : D.atKey (kl x) .nil = .held v := hat .nil
      rw [e1] at e2
      rw [DataW.held.inj e2]
  refine hMore x v w' cnt' hx (by rw [← h3 x hx]; exact hl) hf ⟨D, n, _, hr, h2, fun k hk => ?_⟩ hlt ⟨hgr.os, hgr.tape, hgr.output, hgr.size, fun i hi hs => hgr.block i hi (fun e => hs (by injection e))⟩ hsz hen
  show (lf (kl k) && !(kl k).sameKey (kl x)) = (left k && !(k == x))
  rw [h3 k hk]
  by_cases e : k = x
  · subst e
    rw [WideAt.sameKey_self (kl_key hk)]
    simp
  · have hne : kl k ≠ kl x := fun h => e (kl_inj h)
    rw [sameKey_ne hne]
    simp [e]
end
end Go.Proofs.Yteilmbhnbmmcjaa.B
