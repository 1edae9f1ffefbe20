/- Helper: notes that are there yet, by their numbers; notes compared. No condition. -/
import Derived.Test.YteilmbhnbmmcjaaLt
import Derived.Test.YteilmbhnbmmcjaaLaterCall
import Derived.Laws.StructEq
namespace Go.Proofs.Yteilmbhnbmmcjaa.B
open Go.RowKit Go.Proofs.YteilmbhnbmmcjaaW.PrintWords Go.Proofs.Yteilmbhnbmmcjaa.Later
set_option maxRecDepth 100000
set_option maxHeartbeats 1600000
theorem R_mut2 {α : Type} {d : Kd α} {e : Nat} {w w' : World} {base : Nat} {ok : Nat → Prop} {v : Value} {xs : List α} (h : d.R e w base ok v xs) {a g s t : Nat} {ca cg : Array Value} (ha : Blk w a ca s) (hg : Blk w g cg t) (hs : ∀ q, q ∈ e :: d.E → q ≠ s) (ht : ∀ q, q ∈ e :: d.E → q ≠ t) (hm : Mut (two a g) w w') : d.R e w' base ok v xs :=
  Kd.R_mono (Kd.R_step (Kd.R_types (Kd.R_types h ha hs) hg ht) (fun k hk hlt => hm.block k hlt (fun e => by rcases e with e | e; exact hk.1.2 e; exact hk.2 e))) (fun _ hk => hk.1.1)
theorem R_dev {sl : Bool} {w w' : World} {a g : Nat} {N L : List Nt} {base : Nat} {ok : Nat → Prop} {v : Value} (h : ntK.R 45 w base ok v L) (hD : DevOf sl w a N) (hb : BookOf w a g N) (hm : Mut (two a g) w w') : ntK.R 45 w' base ok v L := by
  obtain ⟨pg, many, _, _, np, oo, n, k, _⟩ := hD
  exact R_mut2 h k hb (by decide) (by decide) hm
theorem ntA_drop (N : List Nt) (m i : Nat) : ntA (N.drop m) i = ntA N (m + i) := by
  simp [ntA, List.getD_eq_getElem?_getD, List.getElem?_drop]
theorem kept_note (N : List Nt) (h : Noted N) (m i : Nat) (hm : m ≤ N.length) (hi : i < (N.drop m).length) : noteV (N.drop m) N.length (ntA (N.drop m) i).n = ((ntA (N.drop m) i).val, 0) := by
  have hl : (N.drop m).length = N.length - m := by simp
  refine noteV_at _ _ _ i hi (fun j hj => ?_) rfl
  rw [ntA_drop, ntA_drop, h.num _ (by omega), h.num _ (by omega)]
  omega
theorem gone_note (N : List Nt) (h : Noted N) (m : Nat) (hm : m ≤ N.length) : noteV (N.drop m) N.length m = (ntZ, if 1 ≤ m then 400 else 181) := by
  have hl : (N.drop m).length = N.length - m := by simp
  rw [noteV_none _ _ _ (fun j hj => by rw [ntA_drop, h.num _ (by omega)]; omega)]
  by_cases h1 : 1 ≤ m
  · rw [if_pos ⟨by omega, by omega⟩, if_pos h1]
  · rw [if_neg (fun hh => h1 (by omega)), if_neg h1]
theorem later_note (N : List Nt) (h : Noted N) (m : Nat) (hm : m ≤ N.length) : noteV (N.drop m) N.length ((N.length : Int) + 1) = (ntZ, 181) := by
  have hl : (N.drop m).length = N.length - m := by simp
  rw [noteV_none _ _ _ (fun j hj => by rw [ntA_drop, h.num _ (by omega)]; omega), if_neg (by omega)]
theorem eqIn45 (a b : Int) (s : ByteArray) (W : World) : (Op.equalIn 10000 45 (.agg #[.int .i64 a, .int .i64 b, .string s]) (.agg #[.int .i64 a, .int .i64 b, .string s])).run Try.prog W = .ok true W := by
  rw [run_equalIn_agg (d := 9999) (t := 45) (ht := by kernel_rfl) (hp := by kernel_rfl)]
  have h3 : Try.prog.underlying 3 = some (.int .i64) := Try.underlying3
  have h9 : Try.prog.underlying 9 = some .string := Try.underlying9
  simp [Program.fieldsOf, Try.underlying45, Op.eqFields, part, go_sem, run_equalIn_int (d := 9998) (h := h3), run_equalIn_string (d := 9998) (h := h9)]
theorem eq45 (a b : Int) (s : ByteArray) (W : World) : (binOp .eql 45 (.agg #[.int .i64 a, .int .i64 b, .string s]) (.agg #[.int .i64 a, .int .i64 b, .string s])).run Try.prog W = .ok (.bool true) W := by
  rw [run_eql_struct, eqIn45]; rfl
theorem ne45 (a b : Int) (s : ByteArray) (W : World) : (binOp .neq 45 (.agg #[.int .i64 a, .int .i64 b, .string s]) (.agg #[.int .i64 a, .int .i64 b, .string s])).run Try.prog W = .ok (.bool false) W := by
  rw [run_neq_struct, eqIn45]; rfl
end Go.Proofs.Yteilmbhnbmmcjaa.B
