/- Helper: four rows of pairs, each by itself, in an array. No condition. -/
import Derived.Test.YteilmbhnbmmcjaaKh
namespace Go.Proofs.Yteilmbhnbmmcjaa.B
open Go.RowKit Go.Proofs.YteilmbhnbmmcjaaW.PrintWords Go.Proofs.Yteilmbhnbmmcjaa.Later
set_option maxRecDepth 100000
set_option maxHeartbeats 1600000
theorem bucket_lt (l : List UInt8) : bucket l < 4 := Nat.mod_lt _ (by omega)
def arr (v : Nat → Value) : Array Value := #[v 0, v 1, v 2, v 3]
def upN {α : Type} (v : Nat → α) (i : Nat) (u : α) : Nat → α := fun k => if k = i then u else v k
theorem arr_get (v : Nat → Value) {i : Nat} (h : i < 4) : (arr v)[i]? = some (v i) := by
  rcases i with _ | _ | _ | _ | i
  · rfl
  · rfl
  · rfl
  · rfl
  · omega
theorem arr_set (v : Nat → Value) {i : Nat} (h : i < 4) (u : Value) : (arr v).setIfInBounds i u = arr (upN v i u) := by
  rcases i with _ | _ | _ | _ | i
  · rfl
  · rfl
  · rfl
  · rfl
  · omega
theorem arr_congr {v u : Nat → Value} (h : ∀ i, i < 4 → v i = u i) : arr v = arr u := by
  simp [arr, h 0 (by omega), h 1 (by omega), h 2 (by omega), h 3 (by omega)]
theorem prK_E : prK.E = [] := rfl
theorem prK_tight {w : World} {base : Nat} {ok : Nat → Prop} {v : Value} {xs : List Pr} (h : prK.R 63 w base ok v xs) : prK.R 63 w base (fun k => some k = v.ownBlock) v xs := by
  obtain ⟨h0, inner, ho, hr⟩ := h
  refine ⟨fun k hk => hk.symm, inner, ho, hr.imp_ (fun p c hp => prK.M_mono (fun k hk => ?_) (prK.M_bound hp))⟩
  obtain ⟨_, _, _, q, hq, _⟩ := hk
  rw [prK_E] at hq
  cases hq
theorem R_base {α : Type} {d : Kd α} {e : Nat} {w : World} {base : Nat} {ok : Nat → Prop} {v : Value} {xs : List α} (h : d.R e w base ok v xs) {k : Nat} (hk : v.ownBlock = some k) : base ≤ k ∧ k < w.heap.size :=
  ⟨((Kd.R_bound h).1 k hk).2.1, ((Kd.R_bound h).1 k hk).2.2.1⟩
/-- Another row may have changed. -/
theorem prK_kept {w w' : World} {base : Nat} {v : Value} {xs : List Pr} {S : Nat → Prop} (h : prK.R 63 w base (fun _ => True) v xs) (hm : Mut S w w') (hs : ∀ k, v.ownBlock = some k → ¬ S k) : prK.R 63 w' base (fun _ => True) v xs :=
  Kd.R_mono (Kd.R_step (prK_tight h) (fun k hk hlt => hm.block k hlt (hs k hk.symm))) (fun _ _ => trivial)
structure Four (w : World) (base : Nat) (v : Nat → Value) (P : Nat → List Pr) : Prop where
  r : ∀ i, i < 4 → prK.R 63 w base (fun _ => True) (v i) (P i)
  d : ∀ i j, i < 4 → j < 4 → i ≠ j → ∀ k, (v i).ownBlock = some k → (v j).ownBlock ≠ some k
theorem Four.nil (w : World) (base : Nat) : Four w base (fun _ => .slice none 0 0) (fun _ => []) := ⟨fun _ _ => Kd.R_nil _ _ _ _ _, fun _ _ _ _ _ k h => by simp [Value.ownBlock] at h⟩
theorem Four.below {w w' : World} {base : Nat} {v : Nat → Value} {P : Nat → List Pr} (h : Four w base v P) (hb : Below w.heap.size w w') : Four w' base v P := ⟨fun i hi => Kd.R_below (h.r i hi) hb, h.d⟩
theorem Four.far {w w' : World} {base : Nat} {v : Nat → Value} {P : Nat → List Pr} (h : Four w base v P) {g t : Nat} {cells : Array Value} (hg : Blk w g cells t) (ht : t ≠ 63) (hm : Mut (only g) w w') : Four w' base v P :=
  ⟨fun i hi => R_mut (h.r i hi) hg (fun q hq => by rw [prK_E] at hq; obtain rfl := List.mem_singleton.1 hq; exact Ne.symm ht) hm, h.d⟩
/-- One of the four is another one. -/
theorem Four.up {w w' : World} {base : Nat} {v : Nat → Value} {P : Nat → List Pr} (h : Four w base v P) {n : Nat} (hn : n < 4) {v' : Value} {P' : List Pr} (hr : prK.R 63 w' base (fun _ => True) v' P') (hm : Mut (fun k => (v n).ownBlock = some k) w w')
    (ho : ∀ k, v'.ownBlock = some k → (v n).ownBlock = some k ∨ w.heap.size ≤ k) : Four w' base (upN v n v') (upN P n P') := by
  have old : ∀ j, j < 4 → j ≠ n → ∀ k, v'.ownBlock = some k → (v j).ownBlock ≠ some k := fun j hj hjn k hk he => by
    rcases ho k hk with h1 | h1
    · exact h.d n j hn hj (Ne.symm hjn) k h1 he
    · have := (R_base (h.r j hj) he).2; omega
  refine ⟨fun i hi => ?_, fun i j hi hj hij k hk => ?_⟩
  · unfold upN
    by_cases e : i = n
    · rw [if_pos e, if_pos e]; exact hr
    · rw [if_neg e, if_neg e]
      exact prK_kept (h.r i hi) hm (fun k hk he => h.d i n hi hn e k hk he)
  · unfold upN at hk ⊢
    by_cases e : i = n
    · rw [if_pos e] at hk
      rw [if_neg (fun e2 => hij (e.trans e2.symm))]
      exact old j hj (fun e2 => hij (e.trans e2.symm)) k hk
    · rw [if_neg e] at hk
      by_cases e2 : j = n
      · rw [if_pos e2]
        exact fun h2 => old i hi e k h2 hk
      · rw [if_neg e2]
        exact h.d i j hi hj hij k hk
/-- What an act on one row does. -/
def ActPost (base : Nat) (w1 : World) (v : Value) (P' : List Pr) (e : Ending) (w2 : World) : Prop :=
  ∃ v', e = .returned v' ∧ prK.R 63 w2 base (fun _ => True) v' P' ∧ Mut (fun k => v.ownBlock = some k) w1 w2 ∧ ∀ k, v'.ownBlock = some k → v.ownBlock = some k ∨ w1.heap.size ≤ k
def PM (L : Nat → List Pr) (act : List Pr → Pr → List Pr) (p : List Pr) : Nat → Nat → List Pr
  | 0 => L
  | m + 1 => upN (PM L act p m) (bucket (prA p m).k) (act (PM L act p m (bucket (prA p m).k)) (prA p m))
end Go.Proofs.Yteilmbhnbmmcjaa.B
