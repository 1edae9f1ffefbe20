/- Helper: the document's digest: numbers of four parts, walked. the document's digest: roots, walked. the document's digest: the first primes, walked. the document's digest: its numbers are the program's. bytes out of a string, and what is appended to them. No condition. -/
import Derived.Test.YticnmogeknlmeaaGreatDoorN05
import Derived.Deep.WholeRow
import Derived.Test.YticnmogeknlmeaaGreatDoorN01
import Derived.Lib.ConvBytes
import Derived.Test.YticnmogeknlmeaaGreatDoorN03
import Derived.ArgAppend
namespace Go.Proofs.YticnmogeknlmeaaGreatDoor.B
open Go.RowKit Go.Proofs.YticnmogeknlmeaaGreatDoorW.PrintWords Go.Proofs.YticnmogeknlmeaaGreatDoor.Later
set_option maxRecDepth 100000
set_option maxHeartbeats 1600000
/-- A number of four parts. -/
def an (l : List Nat) (i : Nat) : Nat := l.getD i 0
def wd (l : List Nat) : Array Value := #[enc64 (an l 0), enc64 (an l 1), enc64 (an l 2), enc64 (an l 3)]
theorem wd_at (l : List Nat) (i : Nat) (h : i < 4) : (wd l)[i]? = some (.int .u64 ((an l i : Nat) : Int)) := by
  have : i = 0 ∨ i = 1 ∨ i = 2 ∨ i = 3 := by omega
  rcases this with rfl | rfl | rfl | rfl <;> rfl
theorem wd_set (l : List Nat) (i : Nat) (h : i < 4) (hl : l.length = 4) (x : Nat) : (wd l).setIfInBounds i (.int .u64 (x : Int)) = wd (l.set i x) := by
  match l, hl with
  | [a, b, c, d], _ =>
    have : i = 0 ∨ i = 1 ∨ i = 2 ∨ i = 3 := by omega
    rcases this with rfl | rfl | rfl | rfl <;> rfl
/-- One more product, added. -/
def tStep (a b : List Nat) (i : Nat) (s : List Nat × Nat) (k : Nat) : List Nat × Nat :=
  let x := (an s.1 (i + k) + an a i * an b k + s.2) % 18446744073709551616
  (s.1.set (i + k) (x % 4294967296), x / 4294967296)
def tIn (a b : List Nat) (i : Nat) (out : List Nat) : Nat → List Nat × Nat
  | 0 => (out, 0)
  | k + 1 => tStep a b i (tIn a b i out k) k
def tOut (a b : List Nat) : Nat → List Nat
  | 0 => [0, 0, 0, 0]
  | i + 1 => (tIn a b i (tOut a b i) (4 - i)).1
def timesL (a b : List Nat) : List Nat := tOut a b 4
theorem tIn_len (a b : List Nat) (i : Nat) (out : List Nat) (h : out.length = 4) : ∀ k, (tIn a b i out k).1.length = 4
  | 0 => h
  | k + 1 => by rw [tIn, tStep]; simp [tIn_len a b i out h k]
theorem tOut_len (a b : List Nat) : ∀ i, (tOut a b i).length = 4
  | 0 => rfl
  | i + 1 => tIn_len a b i _ (tOut_len a b i) _
structure TimA (w : World) (a b o : List Nat) (ga gb gr go : Nat) (wr : World) : Prop where
  a : Blk wr ga (wd a) 128
  b : Blk wr gb (wd b) 128
  r : Blk wr gr (wd [0, 0, 0, 0]) 128
  o : Blk wr go (wd o) 128
  ln : w.heap.size ≤ ga ∧ ga < gb ∧ gb < gr ∧ gr < go
  B : Below w.heap.size w wr
theorem TimA.drewn {w : World} {a b o : List Nat} {ga gb gr go : Nat} {wr w2 : World} (h : TimA w a b o ga gb gr go wr) (hw : ∃ m : Nat, w2 = wr.drewN m) : TimA w a b o ga gb gr go w2 := by
  obtain ⟨m, rfl⟩ := hw
  exact ⟨h.a, h.b, h.r, h.o, h.ln, below_drewN h.B m⟩
theorem TimA.start (w : World) (a b : List Nat) {w1 : World} (h : w1 = (((w.alloc (.cells (wd a) 128)).alloc (.cells (wd b) 128)).alloc (.cells (wd [0, 0, 0, 0]) 128)).alloc (.cells (wd [0, 0, 0, 0]) 128)) : TimA w a b [0, 0, 0, 0] w.heap.size (w.heap.size + 1) (w.heap.size + 1 + 1) (w.heap.size + 1 + 1 + 1) w1 := by
  subst h
  have q0 := Blk.new w (wd a) 128
  have q1 := Blk.new (w.alloc (.cells (wd a) 128)) (wd b) 128
  have q2 := Blk.new ((w.alloc (.cells (wd a) 128)).alloc (.cells (wd b) 128)) (wd [0, 0, 0, 0]) 128
  have q3 := Blk.new (((w.alloc (.cells (wd a) 128)).alloc (.cells (wd b) 128)).alloc (.cells (wd [0, 0, 0, 0]) 128)) (wd [0, 0, 0, 0]) 128
  rw [show (w.alloc (.cells (wd a) 128)).heap.size = w.heap.size + 1 by simp] at q1
  rw [show ((w.alloc (.cells (wd a) 128)).alloc (.cells (wd b) 128)).heap.size = w.heap.size + 1 + 1 by simp] at q2
  rw [show (((w.alloc (.cells (wd a) 128)).alloc (.cells (wd b) 128)).alloc (.cells (wd [0, 0, 0, 0]) 128)).heap.size = w.heap.size + 1 + 1 + 1 by simp] at q3
  have al : ∀ (W : World) (o : Obj), Below W.heap.size W (W.alloc o) := fun W o => (Below.refl _ _).alloc (Nat.le_refl _) o
  exact ⟨((q0.below (al _ _)).below (al _ _)).below (al _ _), (q1.below (al _ _)).below (al _ _), q2.below (al _ _), q3, ⟨by omega, by omega, by omega, by omega⟩, ((((Below.refl w.heap.size w).alloc (Nat.le_refl _) _).alloc (by simp) _).alloc (by simp; omega) _).alloc (by simp; omega) _⟩
theorem TimA.step {w : World} {a b o : List Nat} {ga gb gr go i : Nat} {wr : World} (h : TimA w a b o ga gb gr go wr) (hi : i < 4) (hl : o.length = 4) (x : Nat) : TimA w a b (o.set i x) ga gb gr go (wr.setCell ⟨go, i, none⟩ (.int .u64 (x : Int))) := by
  have ho := h.o.set i (.int .u64 (x : Int))
  rw [wd_set o i hi hl] at ho
  have := h.ln
  exact ⟨h.a.far (by simp; omega) _, h.b.far (by simp; omega) _, h.r.far (by simp; omega) _, ho, h.ln, h.B.setCell (by simp; omega) _⟩
def TimR (w : World) (a b : List Nat) (ga gb gr go : Nat) (x : Value) (wr : World) : Prop := ∃ i : Nat, i ≤ 4 ∧ x = .int .i64 (i : Int) ∧ TimA w a b (tOut a b i) ga gb gr go wr
def TimI (w : World) (a b out : List Nat) (i ga gb gr go : Nat) (x y : Value) (wr : World) : Prop := ∃ k : Nat, k + i ≤ 4 ∧ x = .int .u64 (((tIn a b i out k).2 : Nat) : Int) ∧ y = .int .i64 (k : Int) ∧ TimA w a b (tIn a b i out k).1 ga gb gr go wr
theorem uwrap3 (o a b v : Nat) : IntKind.u64.wrap (IntKind.u64.wrap ((o : Int) + IntKind.u64.wrap ((a : Int) * (b : Int))) + (v : Int)) = (((o + a * b + v) % 18446744073709551616 : Nat) : Int) := by
  rw [IntKind.wrap_u64, IntKind.wrap_u64, IntKind.wrap_u64, ← Int.natCast_mul]
  obtain ⟨m, hm⟩ : ∃ m, m = a * b := ⟨_, rfl⟩
  rw [← hm]
  omega
theorem times_any (a b : List Nat) (w : World) : Calls Tryz.prog 60 #[.agg (wd a), .agg (wd b)] w fun e w' => e = .returned (.agg (wd (timesL a b))) ∧ Below w.heap.size w w' := by
  unfold wd enc64
  go_enter Tryz.func60, Tryz.ntmps60
  go_wp2_with fail
  refine at_world ((((w.alloc (.cells (wd a) 128)).alloc (.cells (wd b) 128)).alloc (.cells (wd [0, 0, 0, 0]) 128)).alloc (.cells (wd [0, 0, 0, 0]) 128)) rfl (fun w1 hw1 => ?_)
  have H := TimA.start w a b hw1
  obtain ⟨g3, hg3⟩ : ∃ g, g = w.heap.size + 1 + 1 + 1 := ⟨_, rfl⟩
  obtain ⟨g2, hg2⟩ : ∃ g, g = w.heap.size + 1 + 1 := ⟨_, rfl⟩
  obtain ⟨g1, hg1⟩ : ∃ g, g = w.heap.size + 1 := ⟨_, rfl⟩
  obtain ⟨g0, hg0⟩ : ∃ g, g = w.heap.size := ⟨_, rfl⟩
  rw [← hg3, ← hg2, ← hg1] at H ⊢
  have H := Lib.hid (show TimA w a b [0, 0, 0, 0] g0 g1 g2 g3 w1 by rw [hg0]; exact H)
  rw [← hg0]
  clear hg0 hg1 hg2 hg3 hw1
  go_loopw [6] (fun x wr => TimR w a b g0 g1 g2 g3 x wr) (fun x _ => 4 - (intOf x).toNat)
  case atStart => exact ⟨0, by omega, rfl, H.out⟩
  case round =>
    obtain ⟨i, hi, rfl, hA⟩ := hrel
    have HA := Lib.hid hA
    clear hA
    by_cases hlt : i < 4
    · have HS := Lib.hid (show tOut a b (i + 1) = (tIn a b i (tOut a b i) (4 - i)).1 from rfl)
      have hol := tOut_len a b i
      obtain ⟨out, ho⟩ : ∃ out, out = tOut a b i := ⟨_, rfl⟩
      rw [← ho] at HA HS hol
      have Hol := Lib.hid hol
      clear ho hol
      have hdi : decide ((i : Int) < 4) = true := decide_eq_true (by omega)
      go_wp2_with fail
      go_loopw [7, 8] (fun x y wr => TimI w a b out i g0 g1 g2 g3 x y wr) (fun _ y _ => 4 - i - (intOf y).toNat)
      case atStart => exact ⟨0, by omega, rfl, rfl, HA.out⟩
      case round =>
        obtain ⟨k, hk, rfl, rfl, hI⟩ := hrel
        have HI := Lib.hid hI
        clear hI
        by_cases hlt2 : k + i < 4
        · have HT := Lib.hid (show tIn a b i out (k + 1) = tStep a b i (tIn a b i out k) k from rfl)
          have hsl := tIn_len a b i out Hol.out k
          obtain ⟨s, hs⟩ : ∃ s, s = tIn a b i out k := ⟨_, rfl⟩
          rw [← hs] at HI HT hsl ⊢
          have Hsl := Lib.hid hsl
          clear hs hsl
          have c1 : wr.cell? ⟨g3, i + k, none⟩ = some (.int .u64 ((an s.1 (i + k) : Nat) : Int)) := (HI.out.o.cell (i + k)).trans (wd_at _ _ (by omega))
          have c2 : wr.cell? ⟨g0, i, none⟩ = some (.int .u64 ((an a i : Nat) : Int)) := (HI.out.a.cell i).trans (wd_at _ _ hlt)
          have c3 : wr.cell? ⟨g1, k, none⟩ = some (.int .u64 ((an b k : Nat) : Int)) := (HI.out.b.cell k).trans (wd_at _ _ (by omega))
          unfold tStep at HT
          obtain ⟨o1, ho1⟩ : ∃ x, x = an s.1 (i + k) := ⟨_, rfl⟩
          obtain ⟨a1, ha1⟩ : ∃ x, x = an a i := ⟨_, rfl⟩
          obtain ⟨b1, hb1⟩ : ∃ x, x = an b k := ⟨_, rfl⟩
          rw [← ho1] at c1 HT
          rw [← ha1] at c2 HT
          rw [← hb1] at c3 HT
          clear ho1 ha1 hb1
          obtain ⟨v, hv⟩ : ∃ v, v = s.2 := ⟨_, rfl⟩
          rw [← hv] at HT ⊢
          clear hv
          have n1 : 0 ≤ (i : Int) + (k : Int) := by omega
          have n2 : (i : Int) + (k : Int) < 4 := by omega
          have n3 : ((i : Int) + (k : Int)).toNat = i + k := by omega
          have n4 : IntKind.i64.wrap ((i : Int) + (k : Int)) = (i : Int) + (k : Int) := IntWalk.i64_in _ (by omega)
          have n5 : (k : Int) + (i : Int) < 4 := by omega
          have n6 : (k : Int) < 4 := by omega
          go_wp2_with fail
          go_quiet (fail)
          obtain ⟨w2, hw2⟩ : ∃ w2, w2 = wr.drewN nq := ⟨_, rfl⟩
          have HI2 := Lib.hid (HI.out.drewn ⟨nq, hw2⟩)
          rw [← hw2]
          clear hw2 c1 c2 c3
          rw [uwrap3 o1 a1 b1 v]
          obtain ⟨X, hX⟩ : ∃ X, X = (o1 + a1 * b1 + v) % 18446744073709551616 := ⟨_, rfl⟩
          rw [← hX] at HT ⊢
          have hXw : IntKind.u64.wrap ((X : Int) / 4294967296) = ((X / 4294967296 : Nat) : Int) := by rw [IntKind.wrap_u64]; omega
          clear hX
          have c4 : w2.cell? ⟨g3, i + k, none⟩ = some (.int .u64 ((an s.1 (i + k) : Nat) : Int)) := (HI2.out.o.cell (i + k)).trans (wd_at _ _ (by omega))
          have f4 := HI2.out.o.free (i + k)
          go_wp2_with fail
          go_roundw
          case rel => exact ⟨k + 1, by omega, by rw [HT.out]; simp, by go_num, by rw [HT.out]; have := HI2.out.step (i := i + k) (by omega) Hsl.out (X % 4294967296); simpa using this⟩
          case measure => simp [intOf]; omega
        · obtain ⟨q, hq⟩ : ∃ q, q = 4 - i := ⟨_, rfl⟩
          obtain rfl : k = q := by omega
          rw [← hq] at HS
          rw [← HS.out] at HI
          have n5 : ¬ (k : Int) + (i : Int) < 4 := by omega
          have Hq := Lib.hid hq
          clear hq HS
          go_wp2_with fail
          go_roundw
          case rel => exact ⟨i + 1, by omega, by go_num, HI.out⟩
          case measure => simp [intOf]; omega
    · obtain rfl : i = 4 := by omega
      have p0 : wr.cell? ⟨g3, 0, none⟩ = some (.int .u64 ((an (tOut a b 4) 0 : Nat) : Int)) := HA.out.o.cell 0
      have p1 : wr.cell? ⟨g3, 1, none⟩ = some (.int .u64 ((an (tOut a b 4) 1 : Nat) : Int)) := HA.out.o.cell 1
      have p2 : wr.cell? ⟨g3, 2, none⟩ = some (.int .u64 ((an (tOut a b 4) 2 : Nat) : Int)) := HA.out.o.cell 2
      have p3 : wr.cell? ⟨g3, 3, none⟩ = some (.int .u64 ((an (tOut a b 4) 3 : Nat) : Int)) := HA.out.o.cell 3
      have q0 : wr.cell? ⟨g2, 0, none⟩ = some (.int .u64 0) := HA.out.r.cell 0
      have q1 : wr.cell? ⟨g2, 1, none⟩ = some (.int .u64 0) := HA.out.r.cell 1
      have q2 : wr.cell? ⟨g2, 2, none⟩ = some (.int .u64 0) := HA.out.r.cell 2
      have q3 : wr.cell? ⟨g2, 3, none⟩ = some (.int .u64 0) := HA.out.r.cell 3
      have r0 := HA.out.r.free 0
      have r1 := HA.out.r.free 1
      have r2 := HA.out.r.free 2
      have r3 := HA.out.r.free 3
      go_wp2_with fail
      have hb := (((HA.out.r.set 0 (enc64 (an (tOut a b 4) 0))).set 1 (enc64 (an (tOut a b 4) 1))).set 2 (enc64 (an (tOut a b 4) 2))).set 3 (enc64 (an (tOut a b 4) 3))
      have l2 : w.heap.size ≤ g2 := by have := HA.out.ln; omega
      refine bodyPost_ret (v := .agg (wd (timesL a b))) (results_cell_row (p := 4) (ty := 128) (by kernel_rfl) _ _ g2 128 (wd (timesL a b)) (0, 0) _ rfl hb Tryz.underlying128 rfl (by kernel_rfl)) rfl ⟨rfl, ?_⟩
      exact (((HA.out.B.setCell l2 _).setCell l2 _).setCell l2 _).setCell l2 _
end Go.Proofs.YticnmogeknlmeaaGreatDoor.B
namespace Go.Proofs.YticnmogeknlmeaaGreatDoor.B
open Go.RowKit Go.Proofs.YticnmogeknlmeaaGreatDoorW.PrintWords Go.Proofs.YticnmogeknlmeaaGreatDoor.Later
set_option maxRecDepth 100000
set_option maxHeartbeats 1600000
/-- Is a number at most p at a part? From a part down. -/
def mostL (a : List Nat) (p part : Nat) : Nat → Bool
  | 0 => true
  | i + 1 => if an a i = (if i = part then p else 0) then mostL a p part i else decide (an a i < (if i = part then p else 0))
theorem most_any (a : List Nat) (p part : Nat) (hpt : part ≤ 3) (w : World) : Calls Tryz.prog 61 #[.agg (wd a), .int .u64 (p : Int), .int .i64 (part : Int)] w fun e w' => e = .returned (.bool (mostL a p part 4)) ∧ Below w.heap.size w w' := by
  have hr : ∀ i, i ≤ 4 → True := fun _ _ => trivial
  have HB := Lib.hid ((Below.refl w.heap.size w).alloc (Nat.le_refl _) (.cells (wd a) 128))
  have HA := Lib.hid (Blk.new w (wd a) 128)
  unfold wd enc64
  go_enter Tryz.func61, Tryz.ntmps61
  go_wp2_with fail
  refine at_world (w.alloc (.cells (wd a) 128)) rfl (fun w1 hw1 => ?_)
  rw [← hw1] at HA HB
  obtain ⟨g0, hg0⟩ : ∃ g, g = w.heap.size := ⟨_, rfl⟩
  have HA := Lib.hid (show Blk w1 g0 (wd a) 128 by rw [hg0]; exact HA.out)
  rw [← hg0]
  clear hg0 hr hw1
  go_loop [7] (fun x => ∃ i : Nat, i ≤ 4 ∧ x = .int .i64 ((i : Int) - 1) ∧ mostL a p part i = mostL a p part 4) (fun x => (intOf x + 1).toNat)
  case atStart => exact ⟨4, by omega, rfl, rfl⟩
  case round =>
    obtain ⟨i, hi, rfl, hm⟩ := hrel
    have HM := Lib.hid hm
    clear hm
    cases i with
    | zero =>
      go_wp2_with fail
      go_ret
      exact ⟨by rw [← HM.out]; rfl, HB.out⟩
    | succ i =>
      have c := (HA.out.cell i).trans (wd_at a i (by omega))
      have e1 : ((i + 1 : Nat) : Int) - 1 = (i : Int) := by omega
      rw [e1]
      have HS := Lib.hid (show mostL a p part (i + 1) = if an a i = (if i = part then p else 0) then mostL a p part i else decide (an a i < (if i = part then p else 0)) from rfl)
      obtain ⟨x, hx⟩ : ∃ x, x = an a i := ⟨_, rfl⟩
      rw [← hx] at c HS
      clear hx
      by_cases hp : i = part
      · subst hp
        rw [if_pos rfl] at HS
        by_cases hxp : x = p
        · subst hxp
          rw [if_pos rfl] at HS
          go_wp2_with fail
          go_round
          case rel => exact ⟨i, by omega, rfl, by rw [← HM.out, HS.out]⟩
          case measure => simp [intOf]
        · rw [if_neg hxp] at HS
          have hb : ((x : Int) != (p : Int)) = true := bne_iff_ne.2 (by omega)
          go_wp2_with fail
          go_ret
          refine ⟨?_, HB.out⟩
          rw [← HM.out, HS.out]
          simp
      · rw [if_neg hp] at HS
        have hb0 : ((i : Int) == (part : Int)) = false := beq_eq_false_iff_ne.2 (by omega)
        by_cases hxp : x = 0
        · subst hxp
          rw [if_pos rfl] at HS
          go_wp2_with fail
          go_round
          case rel => exact ⟨i, by omega, rfl, by rw [← HM.out, HS.out]⟩
          case measure => simp [intOf]
        · rw [if_neg hxp] at HS
          have hb : ((x : Int) != 0) = true := bne_iff_ne.2 (by omega)
          go_wp2_with fail
          go_ret
          refine ⟨?_, HB.out⟩
          rw [← HM.out, HS.out]
          simp
theorem wd2 (x : Nat) : #[Value.int IntKind.u64 ((x : Int) % 4294967296), Value.int IntKind.u64 ((x : Int) / 4294967296), Value.int IntKind.u64 0, Value.int IntKind.u64 0] = wd [x % 4294967296, x / 4294967296, 0, 0] := rfl
theorem at_calls {P : Program} {f : Nat} {a : Array Value} {w : World} {Q : Ending → World → Prop} {b : Array Value} (h : a = b) (k : Calls P f b w Q) : Calls P f a w Q := h ▸ k
theorem at_cworld {P : Program} {f : Nat} {a : Array Value} {W : World} {Q : Ending → World → Prop} (X : World) (h : W = X) (k : Calls P f a X Q) : Calls P f a W Q := h ▸ k
/-- A root's bits, from the highest on, as the document has them. -/
def rootOk (p power x : Nat) : Bool :=
  let a := [x % 4294967296, x / 4294967296, 0, 0]
  let y := timesL a a
  mostL (if power = 3 then timesL y a else y) p power 4
def rootN (p power : Nat) : Nat → Nat → Nat
  | 0, n => n
  | b + 1, n => rootN p power b (if rootOk p power (n + 2 ^ b) then n + 2 ^ b else n)
def RootR (p power : Nat) (x y : Value) (w wr : World) : Prop := ∃ b n : Nat, b ≤ 37 ∧ n + 2 ^ b ≤ 2 ^ 37 ∧ rootN p power b n = rootN p power 37 0 ∧ y = .int .u64 ((2 ^ b / 2 : Nat) : Int) ∧ x = .int .u64 (n : Int) ∧ Below w.heap.size w wr
theorem root_any (p power : Nat) (pw : Int) (hpw : (power = 2 ∧ pw = 2) ∨ (power = 3 ∧ pw = 3)) (w : World) : Calls Tryz.prog 31 #[.int .u64 (p : Int), .int .i64 pw] w fun e w' => e = .returned (u32 (BitVec.ofNat 32 (rootN p power 37 0))) ∧ Below w.heap.size w w' := by
  go_enter Tryz.func31, Tryz.ntmps31
  go_wp2_with fail
  go_loopw [5, 6] (fun x y wr => RootR p power x y w wr) (fun _ y _ => (intOf y).toNat)
  case atStart => exact ⟨37, 0, by omega, by omega, rfl, rfl, rfl, Below.refl _ _⟩
  case round =>
    obtain ⟨b, n, hb, hn, he, rfl, rfl, hB⟩ := hrel
    have HE := Lib.hid he
    have HB := Lib.hid hB
    have HN := Lib.hid hn
    clear he hB hn
    cases b with
    | zero =>
      have hn2 : n < 2 ^ 37 := by have := HN.out; omega
      go_wp2_with fail
      go_ret
      refine ⟨?_, HB.out⟩
      rw [← HE.out]
      simp [B.u32, rootN]
    | succ c =>
      have Hx := Lib.hid (show (2 : Nat) ^ (c + 1) / 2 = 2 ^ c by rw [Nat.pow_succ]; omega)
      rw [Hx.out]
      have hle : n + 2 ^ c ≤ 137438953472 ∧ 0 < 2 ^ c ∧ n + 2 ^ c + 2 ^ c ≤ 2 ^ 37 := by
        have h1 := HN.out
        rw [Nat.pow_succ] at h1
        have : 0 < 2 ^ c := Nat.pow_pos (by decide)
        omega
      have HS := Lib.hid (show rootN p power (c + 1) n = rootN p power c (if rootOk p power (n + 2 ^ c) then n + 2 ^ c else n) from rfl)
      obtain ⟨bit, hbit⟩ : ∃ bit, bit = (2 : Nat) ^ c := ⟨_, rfl⟩
      rw [← hbit] at hle HS ⊢
      have Hbit := Lib.hid hbit
      obtain ⟨l1, l2, l3⟩ := hle
      have L3 := Lib.hid l3
      clear hbit l3
      obtain ⟨x, hx⟩ : ∃ x, x = n + bit := ⟨_, rfl⟩
      rw [← hx] at HS l1 L3
      have hxi : (n : Int) + (bit : Int) = (x : Int) := by omega
      have Hxx := Lib.hid hx
      clear hx
      have Ht := Lib.hid (times_any [x % 4294967296, x / 4294967296, 0, 0] [x % 4294967296, x / 4294967296, 0, 0])
      have HO := Lib.hid (show rootOk p power x = mostL (if power = 3 then timesL (timesL [x % 4294967296, x / 4294967296, 0, 0] [x % 4294967296, x / 4294967296, 0, 0]) [x % 4294967296, x / 4294967296, 0, 0] else timesL [x % 4294967296, x / 4294967296, 0, 0] [x % 4294967296, x / 4294967296, 0, 0]) p power 4 from rfl)
      have hl4 : (timesL [x % 4294967296, x / 4294967296, 0, 0] [x % 4294967296, x / 4294967296, 0, 0]).length = 4 := tOut_len _ _ 4
      go_wp2_with fail
      have hW := wd2 x
      refine at_calls (b := #[Value.agg (wd [x % 4294967296, x / 4294967296, 0, 0]), Value.agg (wd [x % 4294967296, x / 4294967296, 0, 0])]) rfl ?_
      refine at_cworld (wr.alloc (.cells (wd [x % 4294967296, x / 4294967296, 0, 0]) 128)) rfl ?_
      have hB1 := HB.out.alloc HB.out.size (.cells (wd [x % 4294967296, x / 4294967296, 0, 0]) 128)
      have q0 := Blk.new wr (wd [x % 4294967296, x / 4294967296, 0, 0]) 128
      obtain ⟨xl, hxl⟩ : ∃ l, l = [x % 4294967296, x / 4294967296, 0, 0] := ⟨_, rfl⟩
      rw [← hxl] at Ht HO hl4 hB1 q0 ⊢
      obtain ⟨w1, hw1⟩ : ∃ w1, w1 = wr.alloc (.cells (wd xl) 128) := ⟨_, rfl⟩
      rw [← hw1] at hB1 q0 ⊢
      have hs1 : w1.heap.size = wr.heap.size + 1 := by rw [hw1]; simp
      obtain ⟨gx, hge⟩ : ∃ g, g = wr.heap.size := ⟨_, rfl⟩
      rw [← hge] at q0
      rw [← hge]
      have HB1 := Lib.hid hB1
      have Q0 := Lib.hid q0
      have Hs1 := Lib.hid hs1
      clear hw1 hxl hB1 q0 hs1 hW hge
      refine (Ht.out w1).mono ?_
      rintro e w2 ⟨rfl, hB2⟩
      obtain ⟨yl, hyl⟩ : ∃ l, l = timesL xl xl := ⟨_, rfl⟩
      rw [← hyl] at HO hl4 ⊢
      have hgx : gx < w2.heap.size := by have h1 := Hs1.out; have h2 := hB2.size; have h3 := Q0.out.lt; omega
      have Q2 := Lib.hid (Q0.out.below hB2)
      have HB2 := Lib.hid (HB1.out.trans (hB2.mono HB1.out.size))
      have HQ3 := Lib.hid (Blk.new w2 (wd yl) 128)
      have HB3 := Lib.hid (HB2.out.alloc HB2.out.size (.cells (wd yl) 128))
      have Q3 := Lib.hid (Q2.out.below ((Below.refl _ _).alloc (Nat.le_refl _) (.cells (wd yl) 128)))
      have HTM := Lib.hid (fun (W : World) => times_any yl xl W)
      clear hyl hB2 Q0 HB1 Ht
      unfold wd enc64 at HTM HQ3 HB3 Q3
      unfold wd enc64
      rcases hpw with ⟨rfl, rfl⟩ | ⟨rfl, rfl⟩
      · rw [if_neg (by decide)] at HO
        have hm := Lib.hid (fun (W : World) => most_any yl p 2 (by decide) W)
        unfold wd enc64 at hm
        go_wp2_with fail
        refine (hm.out _).mono ?_
        rintro e w5 ⟨rfl, hB5⟩
        have HB5 := Lib.hid (HB3.out.trans (hB5.mono HB3.out.size))
        clear hB5
        cases hok : mostL yl p 2 4
        · rw [hok] at HO
          clear hok
          go_wp2_with fail
          go_roundw
          case rel => exact ⟨c, n, by omega, by have h1 := L3.out; have h2 := Hxx.out; have h3 := Hbit.out; omega, by rw [← HE.out, HS.out, HO.out]; rfl, by rw [← Hbit.out]; go_num, rfl, HB5.out⟩
          case measure => simp [intOf]; omega
        · rw [hok] at HO
          clear hok
          go_wp2_with fail
          go_roundw
          case rel => exact ⟨c, x, by omega, by have h1 := L3.out; have h3 := Hbit.out; omega, by rw [← HE.out, HS.out, HO.out]; rfl, by rw [← Hbit.out]; go_num, rfl, HB5.out⟩
          case measure => simp [intOf]; omega
      · rw [if_pos rfl] at HO
        have hm := Lib.hid (fun (W : World) => most_any (timesL yl xl) p 3 (by decide) W)
        unfold wd enc64 at hm
        have x0 : w2.cell? ⟨gx, 0, none⟩ = some (.int .u64 ((an xl 0 : Nat) : Int)) := Q2.out.cell 0
        have x1 : w2.cell? ⟨gx, 1, none⟩ = some (.int .u64 ((an xl 1 : Nat) : Int)) := Q2.out.cell 1
        have x2 : w2.cell? ⟨gx, 2, none⟩ = some (.int .u64 ((an xl 2 : Nat) : Int)) := Q2.out.cell 2
        have x3 : w2.cell? ⟨gx, 3, none⟩ = some (.int .u64 ((an xl 3 : Nat) : Int)) := Q2.out.cell 3
        go_wp2_with fail
        refine (HTM.out _).mono ?_
        rintro e w4 ⟨rfl, hB4⟩
        have HB4 := Lib.hid (HB3.out.trans (hB4.mono HB3.out.size))
        have hq8 := HQ3.out.below hB4
        obtain ⟨g8, hg8⟩ : ∃ g, g = w2.heap.size := ⟨_, rfl⟩
        have Q8 := Lib.hid (show Blk w4 g8 _ 128 by rw [hg8]; exact hq8)
        rw [← hg8]
        have hl8 : w.heap.size ≤ g8 := by rw [hg8]; exact HB2.out.size
        obtain ⟨zl, hzl⟩ : ∃ l, l = timesL yl xl := ⟨_, rfl⟩
        rw [← hzl] at HO hm ⊢
        have y0 := Q8.out.cell 0
        have y1 := Q8.out.cell 1
        have y2 := Q8.out.cell 2
        have y3 := Q8.out.cell 3
        simp only [List.getElem?_toArray, List.getElem?_cons_zero, List.getElem?_cons_succ] at y0 y1 y2 y3
        have f0 := Q8.out.free 0
        have f1 := Q8.out.free 1
        have f2 := Q8.out.free 2
        have f3 := Q8.out.free 3
        have HB6 := Lib.hid ((((HB4.out.setCell (p := ⟨g8, 0, none⟩) hl8 (enc64 (an zl 0))).setCell (p := ⟨g8, 1, none⟩) hl8 (enc64 (an zl 1))).setCell (p := ⟨g8, 2, none⟩) hl8 (enc64 (an zl 2))).setCell (p := ⟨g8, 3, none⟩) hl8 (enc64 (an zl 3)))
        clear hq8 hg8 hzl hB4 HTM HQ3 HB3 Q3 x0 x1 x2 x3
        go_wp2_with fail
        refine (hm.out _).mono ?_
        rintro e w5 ⟨rfl, hB5⟩
        have HB5 := Lib.hid (HB6.out.trans (hB5.mono HB6.out.size))
        clear hB5
        cases hok : mostL zl p 3 4
        · rw [hok] at HO
          clear hok
          go_wp2_with fail
          go_roundw
          case rel => exact ⟨c, n, by omega, by have h1 := L3.out; have h2 := Hxx.out; have h3 := Hbit.out; omega, by rw [← HE.out, HS.out, HO.out]; rfl, by rw [← Hbit.out]; go_num, rfl, HB5.out⟩
          case measure => simp [intOf]; omega
        · rw [hok] at HO
          clear hok
          go_wp2_with fail
          go_roundw
          case rel => exact ⟨c, x, by omega, by have h1 := L3.out; have h3 := Hbit.out; omega, by rw [← HE.out, HS.out, HO.out]; rfl, by rw [← Hbit.out]; go_num, rfl, HB5.out⟩
          case measure => simp [intOf]; omega
end Go.Proofs.YticnmogeknlmeaaGreatDoor.B
namespace Go.Proofs.YticnmogeknlmeaaGreatDoor.B
open Go.RowKit Go.Proofs.YticnmogeknlmeaaGreatDoorW.PrintWords Go.Proofs.YticnmogeknlmeaaGreatDoor.Later
set_option maxRecDepth 100000
set_option maxHeartbeats 1600000
def PrimeRel2 (w : World) (g : Nat) (l p : Value) (wr : World) : Prop := ∃ m : Nat, m + g = 310 ∧ p = .int .u64 ((m : Int) + 2) ∧ RowE enc64 84 wr w.heap.size l (sieve m) ∧ Below w.heap.size w wr
theorem refPrimes_any (w : World) : Calls Tryz.prog 30 #[.int .i64 64] w (OnePrimes 84 primesL w) := by
  go_enter Tryz.func30, Tryz.ntmps30
  go_wp2
  go_loopg [3, 4] 310 (fun g l p wr => PrimeRel2 w g l p wr)
  case atStart => exact ⟨0, by omega, rfl, RowE.lit w w.heap.size [] (Nat.le_refl _) (by decide), (Below.refl _ _).alloc (Nat.le_refl _) _⟩
  case round =>
    obtain ⟨m, hm, rfl, hR, hB⟩ := hrel
    have HB := Lib.hid hB
    have HR := Lib.hid hR
    clear hB hR
    cases gk with
    | zero =>
      obtain rfl : m = 310 := by omega
      rw [sieve_310] at HR
      have hlen : primesL.length = 64 := rfl
      obtain ⟨A, cap, rfl, _⟩ := HR.out.slice
      go_wp2
      go_ret
      exact ⟨_, rfl, HR.out, HB.out⟩
    | succ g =>
      have hlt := sieve_lt m (by omega)
      have HS := Lib.hid (show sieve (m + 1) = if (sieve m).any (fun q => (m + 2) % q == 0) then sieve m else sieve m ++ [m + 2] from rfl)
      obtain ⟨A, cap, rfl, hA⟩ := HR.out.slice
      have HA := Lib.hid hA
      have HP := Lib.hid (sieve_pos m)
      obtain ⟨l, hl⟩ : ∃ l, l = sieve m := ⟨_, rfl⟩
      rw [← hl] at HS HR HA HP hlt ⊢
      clear hl hA
      have hm1 : m ≤ 310 := by omega
      have hd1 : decide ((m : Int) + 2 < 400) = true := decide_eq_true (by omega)
      have hd2 : decide ((l.length : Int) < 64) = true := decide_eq_true (by omega)
      go_wp2
      go_loopg [5, 6] l.length (fun g2 x i wx => ∃ k : Nat, k + g2 = l.length ∧ i = .int .i64 k ∧ x = .bool (!(l.take k).any (fun q => (m + 2) % q == 0)) ∧ wx = wr)
      case atStart => exact ⟨0, by omega, rfl, by simp, rfl⟩
      case round =>
        obtain ⟨k, hk, rfl, rfl, rfl⟩ := hrel
        cases gk with
        | zero =>
          obtain rfl : k = l.length := by omega
          rw [List.take_length]
          cases hany : l.any (fun q => (m + 2) % q == 0)
          · rw [hany] at HS
            clear hany
            go_wp2_with (first
              | (at_builtin; (refine print_append_of (w0 := w) enc64 w.heap.size rfl (.tmp 35) (.tmp 37) 79 84 (.int .u64 0) 8 rfl Tryz.underlying79 info84 rfl (by decide) _ l (m + 2) rfl rfl rfl HR.out HB.out ?s1 ?l1 ?_); (case s1 => exact HB.out.size); (case l1 => omega); intro v1 w2 hR2 hB2 hg hat; have HR2 := Lib.hid (show RowE enc64 84 w2 w.heap.size v1 (l ++ [m + 2]) from hR2); have HB2 := Lib.hid hB2; clear hR2 hB2 hg hat))
            go_roundg g
            case measure => omega
            case rel => exact ⟨m + 1, by omega, by go_num, by rw [HS.out]; exact HR2.out, HB2.out⟩
          · rw [hany] at HS
            clear hany
            go_wp2
            go_roundg g
            case measure => omega
            case rel => exact ⟨m + 1, by omega, by go_num, by rw [HS.out]; exact HR.out, HB.out⟩
        | succ g2 =>
          have hkl : k < l.length := by omega
          obtain ⟨b, rfl, hb1, hb2⟩ := HA.out (by omega)
          have hc := (HR.out.cell k hkl).1
          have hq := HP.out l[k] (List.getElem_mem hkl)
          have HN := Lib.hid (show (l.take (k + 1)).any (fun q => (m + 2) % q == 0) = ((l.take k).any (fun q => (m + 2) % q == 0) || ((m + 2) % l[k] == 0)) by rw [List.take_succ_eq_append_getElem hkl, List.any_append]; simp)
          obtain ⟨q, hqe⟩ : ∃ q, q = l[k] := ⟨_, rfl⟩
          rw [← hqe] at hc hq HN
          unfold enc64 at hc
          clear hqe
          cases hany : (l.take k).any (fun q => (m + 2) % q == 0)
          · rw [hany] at HN
            clear hany
            have HD := Lib.hid (beq_mod m q)
            have hD2 : ((((m : Int) + 2) % (q : Int)) != 0) = !((m + 2) % q == 0) := by rw [← HD.out]; rfl
            obtain ⟨d, hd⟩ : ∃ d, d = ((m + 2) % q == 0) := ⟨_, rfl⟩
            rw [← hd] at hD2 HN
            clear hd HD
            go_wp2
            go_roundg g2
            case measure => omega
            case rel => exact ⟨k + 1, by omega, by first | rfl | simp, by rw [HN.out]; simp, rfl⟩
          · rw [hany] at HN
            clear hany
            go_wp2
            go_roundg g2
            case measure => omega
            case rel => exact ⟨k + 1, by omega, by first | rfl | simp, by rw [HN.out]; simp, rfl⟩
end Go.Proofs.YticnmogeknlmeaaGreatDoor.B
namespace Go.Proofs.YticnmogeknlmeaaGreatDoor.B
open Go.RowKit Go.Proofs.YticnmogeknlmeaaGreatDoorW.PrintWords Go.Proofs.YticnmogeknlmeaaGreatDoor.Later
set_option maxRecDepth 100000
set_option maxHeartbeats 1600000
def rb (power p : Nat) : BitVec 32 := BitVec.ofNat 32 (rootN p power 37 0)
theorem same_k : primesL.map (rb 3) = kL := by decide +kernel
theorem same_h : (primesL.take 8).map (rb 2) = hL := by decide +kernel
end Go.Proofs.YticnmogeknlmeaaGreatDoor.B
namespace Go.Proofs.YticnmogeknlmeaaGreatDoor.B
open Go.RowKit Go.Proofs.YticnmogeknlmeaaGreatDoorW.PrintWords
set_option maxRecDepth 100000
set_option maxHeartbeats 800000
/-- A row of bytes of the call's own; its block may be marked behind its end. -/
def RowF (w : World) (base : Nat) (v : Value) (xs : List UInt8) : Prop :=
  ∃ (g cap : Nat) (cur : Array Value) (lo hi : Nat), v = .slice (some ⟨g, 0, none⟩) xs.length cap ∧ base ≤ g ∧ w.heap[g]? = some (.cells cur 5 (lo, hi)) ∧ (hi = 0 ∨ cur.size ≤ lo) ∧ cap ≤ cur.size ∧ xs.length ≤ cap ∧ ∀ (i : Nat) (h : i < xs.length), cur[i]? = some (encB xs[i])
theorem RowF.below {w w' : World} {base : Nat} {v : Value} {xs : List UInt8} (h : RowF w base v xs) (hb : Below w.heap.size w w') : RowF w' base v xs := by
  obtain ⟨g, cap, cur, lo, hi, h1, h2, h3, r⟩ := h
  exact ⟨g, cap, cur, lo, hi, h1, h2, (hb.block g (Array.getElem?_eq_some_iff.1 h3).1).trans h3, r⟩
theorem RowF.cell {w : World} {base : Nat} {v : Value} {xs : List UInt8} (h : RowF w base v xs) : ∃ g cap, v = .slice (some ⟨g, 0, none⟩) xs.length cap ∧ base ≤ g ∧ g < w.heap.size ∧ ∀ (i : Nat) (h : i < xs.length), w.cell? ⟨g, i, none⟩ = some (encB xs[i]) := by
  obtain ⟨g, cap, cur, lo, hi, h1, h2, h3, h4, h5, h6, h7⟩ := h
  refine ⟨g, cap, h1, h2, (Array.getElem?_eq_some_iff.1 h3).1, fun i hi' => ?_⟩
  unfold World.cell?
  simp only [h3]
  exact h7 i hi'
theorem RowF.of_string (w : World) (l : List UInt8) (base : Nat) (hb : base ≤ w.heap.size) (hl : l.length ≤ 4294967296) : RowF (Lib.bytesWorld w 5 (bs l)) base (.slice (some ⟨w.heap.size, 0, none⟩) (bs l).size (grownCap w (bs l).size 0 5)) l := by
  have hs := bs_size l
  have hn := Lib.bytesWorld_at_new w 5 (bs l)
  have hge : l.length ≤ grownCap w (bs l).size 0 5 := by rw [← hs]; exact grownCap_ge w _ _ _
  have hcs : (Lib.bytesCells w 5 (bs l)).size = grownCap w (bs l).size 0 5 := by
    have hd : (bs l).data.size = l.length := by simp [bs]
    simp only [Lib.bytesCells, Array.size_append, Array.size_map, Array.size_replicate, hd, hs] at hge ⊢
    omega
  refine ⟨w.heap.size, _, _, _, _, by rw [hs], hb, hn, .inr (Nat.le_refl _), by omega, hge, fun i hi => ?_⟩
  simp only [Lib.bytesCells]
  rw [Array.getElem?_append_left (by simpa [bs] using hi)]
  simp [bs, hi, encB]
/-- One byte, appended. -/
theorem append_F {w0 W : World} {ops : Array Oper} {rest : List Oper} {o : Oper} {a : Act} {Q : Exit → Act → World → Prop} (base : Nat) (hgd : o.guard = none) (s x : Operand)
    (ho : o.op = .call { callee := .builtin .append, args := #[s, x], argTypes := #[60, 60] }) (v : Value) (xs : List UInt8) (y : UInt8) (hs : a.eval s = v) (hx : a.eval x = .slice (some ⟨W.heap.size, 0, none⟩) 1 1)
    (HO : RowF W base v xs) (HB : Below base w0 W) (hbase : base ≤ W.heap.size) (hl : xs.length + 1 ≤ 140737488355328)
    (h : ∀ v1 w1, RowF w1 base v1 (xs ++ [y]) → Below base w0 w1 → (∀ (i : Nat) (cs : Array Value) (t : TypeId), t ≠ 5 → Blk W i cs t → Blk w1 i cs t) → wpList Tryz.prog ops Q rest (a.put o.dst v1) w1) :
    wpList Tryz.prog ops Q (o :: rest) a (W.alloc (.cells #[encB y] 5)) := by
  obtain ⟨g, cap, cur, lo, hi, rfl, h2, h3, h4, h5, h6, h7⟩ := HO
  obtain ⟨i0, hi0, hz⟩ := Option.map_eq_some_iff.1 info5
  simp only [Prod.mk.injEq] at hz
  obtain ⟨hz0, hz1, hz2⟩ := hz
  have hgl := (Array.getElem?_eq_some_iff.1 h3).1
  have hga : (W.alloc (.cells #[encB y] 5)).heap[g]? = some (.cells cur 5 (lo, hi)) := (Below.heap_alloc W _ g hgl).trans h3
  have hcell : ∀ j, (W.alloc (.cells #[encB y] 5)).cell? ⟨g, j, none⟩ = cur[j]? := fun j => by simp [World.cell?, hga]
  have hn1 : (W.alloc (.cells #[encB y] 5)).cell? ⟨W.heap.size, 0, none⟩ = some (encB y) := (Blk.new W #[encB y] 5).cell 0
  have hBa : Below base w0 (W.alloc (.cells #[encB y] 5)) := HB.alloc hbase _
  refine wpList_append_arg _ hgd s x 60 ho 5 i0 (.int .u8 0) 1 1 Tryz.underlying60 hi0 hz0 hz1 hz2 rfl (by decide) g 0 xs.length cap (xs.map encB) hs (by simp) (fun j u hj => ?_) ⟨W.heap.size, 0, none⟩ 1 1 [encB y] hx rfl (fun j u hj => ?_) (fun u hu => ?_) (fun hr j hj => ?_) (by unfold maxLen; omega) (by omega) (fun hr => ?_) (fun hr v' w' hrow hgr => ?_)
  · rw [List.getElem?_map] at hj
    rw [Nat.zero_add, hcell]
    cases hx' : xs[j]? with
    | none => rw [hx'] at hj; cases hj
    | some b =>
      rw [hx'] at hj
      have hjl : j < xs.length := (List.getElem?_eq_some_iff.1 hx').1
      have := h7 j hjl
      rw [this, ← hj]
      rw [List.getElem?_eq_getElem hjl] at hx'
      rw [Option.some.inj hx']; rfl
  · cases j with
    | zero => simp only [List.getElem?_cons_zero, Option.some.injEq] at hj; rw [← hj]; exact hn1
    | succ j => simp at hj
  · simp at hu; subst hu; rfl
  · have hj0 : j = 0 := by simpa using hj
    subst hj0
    rw [show 0 + xs.length * 1 + 0 = xs.length by omega, hcell]
    refine ⟨by rw [Array.getElem?_eq_getElem (by omega)]; rfl, ?_⟩
    unfold World.frozen?
    simp only [hga]
    rcases h4 with h4 | h4
    · subst h4; simp
    · have : ¬ lo ≤ xs.length := by omega
      simp [this]
  · rw [show 0 + xs.length * 1 = xs.length by omega]
    have e1 : (W.alloc (.cells #[encB y] 5)).setCells g xs.length [encB y] = (W.alloc (.cells #[encB y] 5)).setCell ⟨g, xs.length, none⟩ (encB y) := rfl
    rw [e1]
    have hg2 : ((W.alloc (.cells #[encB y] 5)).setCell ⟨g, xs.length, none⟩ (encB y)).heap[g]? = some (.cells (cur.setIfInBounds xs.length (encB y)) 5 (lo, hi)) := by
      simp only [World.setCell, Array.getElem?_modify, if_true, hga]
      rfl
    refine h _ _ ⟨g, cap, _, lo, hi, by rw [List.length_append]; rfl, h2, hg2, by rw [Array.size_setIfInBounds]; exact h4, by rw [Array.size_setIfInBounds]; exact h5, by simp; omega, fun i hi' => ?_⟩ (hBa.setCell h2 _) (fun i cs t ht hb => ?_)
    · by_cases hil : i = xs.length
      · subst hil
        rw [Array.getElem?_setIfInBounds_self_of_lt (by omega)]
        simp
      · have : i < xs.length := by simp at hi'; omega
        rw [Array.getElem?_setIfInBounds_ne (by omega), h7 i this, List.getElem_append_left this]
    · have hne : i ≠ g := fun e => by
        subst e
        rw [Blk, h3] at hb
        injection hb with hb
        injection hb with _ hb
        exact ht hb.symm
      exact (hb.below ((Below.refl _ _).alloc (Nat.le_refl _) _)).far hne _
  · have hrow' : RowE encB 5 w' (W.alloc (.cells #[encB y] 5)).heap.size v' (xs ++ [y]) := by
      unfold RowE
      rw [show encs encB (xs ++ [y]) = xs.map encB ++ [encB y] by simp [encs], List.length_append]
      exact hrow
    have hf : RowF w' base v' (xs ++ [y]) := by
      rcases hrow'.2 with ⟨_, hn⟩ | ⟨g', cap', cur', hv, hb', hh, hn, hc, hsz, htk⟩
      · simp at hn
      · refine ⟨g', cap', cur', 0, 0, hv, by simp at hb'; omega, hh, .inl rfl, by omega, hn, fun i hi' => ?_⟩
        have hcell' : w'.cell? ⟨g', i, none⟩ = some (encB (xs ++ [y])[i]) := (RowE.cell (xs := xs ++ [y]) (by rw [← hv]; exact hrow') i hi').1
        rw [← hcell']
        simp [World.cell?, hh]
    refine h _ _ hf (hBa.grown hgr (by simp; omega) (by simp)) (fun i cs t _ hb => ?_)
    have h1 := hb.below ((Below.refl W.heap.size W).alloc (Nat.le_refl _) (.cells #[encB y] 5))
    exact (hgr.block i h1.lt (by simp)).trans h1
end Go.Proofs.YticnmogeknlmeaaGreatDoor.B
