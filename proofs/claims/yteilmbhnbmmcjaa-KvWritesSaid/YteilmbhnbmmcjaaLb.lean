/- Helper: a device of one space; pages put in it. No condition. -/
import Derived.Test.YteilmbhnbmmcjaaLa
namespace Go.Proofs.Yteilmbhnbmmcjaa.B
open Go.RowKit Go.Proofs.YteilmbhnbmmcjaaW.PrintWords Go.Proofs.Yteilmbhnbmmcjaa.Later
set_option maxRecDepth 100000
set_option maxHeartbeats 800000
/-- A tree of one space. -/
def LT (id q : Int) (pg : Int → Option ByteArray) (sl : Bool) : Tree := fun k => if k = id then some ⟨q, sl, pg⟩ else none
theorem LT_at (id q : Int) (pg : Int → Option ByteArray) (sl : Bool) : LT id q pg sl id = some ⟨q, sl, pg⟩ := by simp [LT]
theorem LT_up (id q q' : Int) (pg pg' : Int → Option ByteArray) (sl sl' : Bool) : upT (LT id q pg sl) id (some ⟨q', sl', pg'⟩) = LT id q' pg' sl' := by
  funext k
  by_cases h : k = id <;> simp [upT, LT, h]
theorem T0_up (id q : Int) (pg : Int → Option ByteArray) (sl : Bool) : upT T0 id (some ⟨q, sl, pg⟩) = LT id q pg sl := by
  funext k
  by_cases h : k = id <;> simp [upT, LT, h, T0]
def PgIn (q : Int) (pg : Int → Option ByteArray) : Prop := ∀ p s, pg p = some s → 0 ≤ p ∧ p < q
theorem PgIn.up {q : Int} {pg : Int → Option ByteArray} (h : PgIn q pg) {p : Int} (h0 : 0 ≤ p) (h1 : p < q) (s : ByteArray) : PgIn q (upP pg p (some s)) := by
  intro i t e
  by_cases hi : i = p
  · subst hi; exact ⟨h0, h1⟩
  · simp [upP, hi] at e; exact h i t e
theorem LT_wf {id q : Int} {pg : Int → Option ByteArray} (h1 : 1 ≤ id) (h2 : id ≤ 15) (h3 : 0 ≤ q) (h4 : q ≤ 1024) (hp : PgIn q pg) (sl : Bool) : WfT (LT id q pg sl) := by
  intro k sp e
  by_cases hk : k = id
  · subst hk
    rw [LT_at] at e
    obtain rfl := Option.some.inj e
    exact ⟨h1, h2, h3, h4, hp⟩
  · simp [LT, hk] at e
theorem sumTo_one (id : Int) (d : Nat) : ∀ n : Nat, 1 ≤ id → sumTo (fun k => if k = id then d else 0) n = if id ≤ n then d else 0
  | 0, h => by rw [sumTo, if_neg (by omega)]
  | n + 1, h => by
    rw [sumTo, sumTo_one id d n h]
    by_cases e : (n : Int) + 1 = id
    · rw [if_neg (by omega), if_pos e, if_pos (by omega)]; omega
    · rw [if_neg e]
      by_cases e2 : id ≤ n
      · rw [if_pos e2, if_pos (by omega)]; omega
      · rw [if_neg e2, if_neg (by omega)]
theorem LT_total {id q : Int} {pg : Int → Option ByteArray} (h1 : 1 ≤ id) (h2 : id ≤ 15) (sl : Bool) : total (LT id q pg sl) = q.toNat := by
  have : (fun k => if (fun _ : Int => true) k = true then qOf (LT id q pg sl) k else 0) = fun k => if k = id then q.toNat else 0 := by
    funext k
    by_cases h : k = id <;> simp [qOf, LT, h]
  unfold total tot
  rw [this, sumTo_one id q.toNat 15 h1, if_pos (by omega)]
/-- A device of which one space, of a few pages, is seen while a transaction is open. -/
structure One (id q : Int) : Prop where
  h1 : 1 ≤ id
  h2 : id ≤ 15
  h3 : 0 ≤ q
  h4 : q ≤ 20
def mkM (now : Tree) (opn : Option Tree) (many : Int) : Md := ⟨now, opn, 20, 40, 0, 0, 64, many⟩
theorem dput_ok {id q : Int} (h : One id q) (now : Tree) (pg : Int → Option ByteArray) (hpg : PgIn q pg) (many : Int) (hm : 0 ≤ many) (hm8 : many < 8) (p : Int) (hp0 : 0 ≤ p) (hp1 : p < q) (s : ByteArray) (hs : s.size ≤ 64) (a : Nat) (w : World) (hM : MdAt w a (mkM now (some (LT id q pg false)) many)) :
    Calls Try.prog 28 #[.pointer (some ⟨a, 0, none⟩), .int .i64 id, .int .i64 p, .string s] w fun e w' => e = .returned (.int .i64 0) ∧ MdAt w' a (mkM now (some (LT id q (upP pg p (some s)) false)) (many + 1)) ∧ Mut (only a) w w' := by
  obtain ⟨h1, h2, h3, h4⟩ := h
  have e1 : putT (LT id q pg false) id p s = (0, LT id q (upP pg p (some s)) false) := by
    simp only [putT, LT_at]
    rw [if_pos ⟨hp0, hp1⟩, LT_up]
  have e2 : mPut (mkM now (some (LT id q pg false)) many) (LT id q pg false) id p s = (0, mkM now (some (LT id q (upP pg p (some s)) false)) (many + 1)) := by
    rw [mPut, if_neg (by simp [mkM]; omega), if_neg (by simp [mayE, LT_at]), e1, mStep, if_neg (by simp [mkM]; omega), if_neg (by simp)]
    rfl
  have hp := put_m (mkM now (some (LT id q pg false)) many) a w hM (LT id q pg false) rfl hm id p (by constructor <;> omega) (by constructor <;> omega) s (by omega) (by rw [e1]; exact LT_wf h1 h2 h3 (by omega) (hpg.up hp0 hp1 s) false) (fun _ => by
    rw [e1, LT_total h1 h2]
    have : q.toNat ≤ 20 := by omega
    refine ⟨?_, ?_, by omega⟩ <;> simp [mkM] <;> omega)
  rw [e2] at hp
  exact hp
theorem dput_sealed {id q : Int} (h : One id q) (now : Tree) (pg : Int → Option ByteArray) (hpg : PgIn q pg) (many : Int) (hm : 0 ≤ many) (p : Int) (hp0 : 0 ≤ p) (hp1 : p < q) (s : ByteArray) (hs : s.size ≤ 64) (a : Nat) (w : World) (hM : MdAt w a (mkM now (some (LT id q pg true)) many)) :
    Calls Try.prog 28 #[.pointer (some ⟨a, 0, none⟩), .int .i64 id, .int .i64 p, .string s] w fun e w' => e = .returned (.int .i64 170) ∧ MdAt w' a (mkM now (some (LT id q pg true)) many) ∧ Mut (only a) w w' := by
  obtain ⟨h1, h2, h3, h4⟩ := h
  have e1 : putT (LT id q pg true) id p s = (0, LT id q (upP pg p (some s)) true) := by
    simp only [putT, LT_at]
    rw [if_pos ⟨hp0, hp1⟩, LT_up]
  have e2 : mPut (mkM now (some (LT id q pg true)) many) (LT id q pg true) id p s = (170, mkM now (some (LT id q pg true)) many) := by
    rw [mPut, if_neg (by simp [mkM]; omega), if_pos (by simp [mayE, LT_at])]
    simp [mayE, LT_at]
  have hp := put_m (mkM now (some (LT id q pg true)) many) a w hM (LT id q pg true) rfl hm id p (by constructor <;> omega) (by constructor <;> omega) s (by omega) (by rw [e1]; exact LT_wf h1 h2 h3 (by omega) (hpg.up hp0 hp1 s) true) (fun _ => by
    rw [e1, LT_total h1 h2]
    have : q.toNat ≤ 20 := by omega
    refine ⟨?_, ?_, by omega⟩ <;> simp [mkM] <;> omega)
  rw [e2] at hp
  exact hp
end Go.Proofs.Yteilmbhnbmmcjaa.B
