/- Helper: what is being installed, and manifests, read by the updater; walked. images read and checked by the updater; walked. images checked by the updater; a slot starts; walked. what is kept of slots compared. a slot starts; walked. No condition. -/
import Derived.Test.YticnmogeknlmeaaGreatDoorN26
import Derived.Test.YticnmogeknlmeaaGreatDoorN06
import Derived.Test.YticnmogeknlmeaaGreatDoorNEqStruct
namespace Go.Proofs.YticnmogeknlmeaaGreatDoor.B
open Go.RowKit Go.Maps Go.Proofs.YticnmogeknlmeaaGreatDoorW.PrintWords Go.Proofs.YticnmogeknlmeaaGreatDoor.Later
set_option maxRecDepth 100000
set_option maxHeartbeats 1600000
theorem blk_put4 {w : World} {g : Nat} {t : TypeId} {a b c d : Value} (h : Blk w g #[a, b, c, d] t) (a' b' c' d' : Value) :
    Blk ((((w.setCell ⟨g, 0, none⟩ a').setCell ⟨g, 1, none⟩ b').setCell ⟨g, 2, none⟩ c').setCell ⟨g, 3, none⟩ d') g #[a', b', c', d'] t := by
  have := (((h.set 0 a').set 1 b').set 2 c').set 3 d'
  simpa using this
theorem below_put4 {b g : Nat} {w w1 : World} (h : Below b w w1) (hg : b ≤ g) (a' b' c' d' : Value) : Below b w ((((w1.setCell ⟨g, 0, none⟩ a').setCell ⟨g, 1, none⟩ b').setCell ⟨g, 2, none⟩ c').setCell ⟨g, 3, none⟩ d') :=
  (((h.setCell (p := ⟨g, 0, none⟩) hg _).setCell (p := ⟨g, 1, none⟩) hg _).setCell (p := ⟨g, 2, none⟩) hg _).setCell (p := ⟨g, 3, none⟩) hg _
theorem blk_put3 {w : World} {g : Nat} {t : TypeId} {a b c : Value} (h : Blk w g #[a, b, c] t) (a' b' c' : Value) : Blk (((w.setCell ⟨g, 0, none⟩ a').setCell ⟨g, 1, none⟩ b').setCell ⟨g, 2, none⟩ c') g #[a', b', c'] t := by
  have := ((h.set 0 a').set 1 b').set 2 c'
  simpa using this
theorem uprog_some {w : World} {u a : Nat} {x : US} (h : UsAt w u a x) {m : Man} {g : Nat} (hp : x.pn = some (m, g)) (hm : m.Ok) (hg : g ≤ 1048576) : Calls Tryz.prog 25 #[.pointer (some ⟨u, 0, none⟩)] w fun e w' => e = .returned (.tuple #[.agg #[.int .i64 (m.v : Int), .int .i64 (m.n : Int), .string (bs m.d), .int .i64 (g : Int)], .int .i64 0]) ∧ Below w.heap.size w w' := by
  have c0 := h.c0
  have H := Lib.hid h
  have Hg := Lib.hid (show page? x.tree 3 3 = some (bs (manB m ++ numL g)) by
    show bootPg x 3 = _
    unfold bootPg
    rw [if_neg (by decide), if_neg (by decide), if_neg (by decide), if_pos rfl, hp]
    rfl)
  have q1 := methGet a
  have Hm := Lib.hid hm
  have hg64 : (g : Int) ≤ 1048576 := by omega
  clear h hp hm
  have hal : Below w.heap.size w (w.alloc (.cells #[.int .i64 0, .int .i64 0, .string { data := #[] }, .int .i64 0] 71)) := (Below.refl _ _).alloc (Nat.le_refl _) _
  have K := Lib.hid (Blk.new w #[.int .i64 0, .int .i64 0, .string { data := #[] }, .int .i64 0] 71)
  have HA := Lib.hid hal
  have c0a : (w.alloc (.cells #[.int .i64 0, .int .i64 0, .string { data := #[] }, .int .i64 0] 71)).cell? ⟨u, 0, none⟩ = some (.iface 25 (.pointer (some ⟨a, 0, none⟩))) := (H.out.below hal).c0
  clear hal
  go_enter Tryz.func25, Tryz.ntmps25
  go_wp2_with fail
  refine (uget_some (H.out.below HA.out) (by decide) (by decide) Hg.out).mono ?_
  rintro e w1 ⟨rfl, hB⟩
  have hB1 := HA.out.trans (hB.mono (by simp))
  have K1 := Lib.hid (K.out.below hB)
  have HB := Lib.hid hB1
  clear hB hB1 c0 c0a
  go_wp2_with fail
  refine (new_any _ _).mono ?_
  rintro e w2 ⟨rfl, hr, hB⟩
  have hB2 := HB.out.trans (hB.mono HB.out.size)
  have K2 := Lib.hid (K1.out.below hB)
  have HB2 := Lib.hid hB2
  have HR := Lib.hid hr
  have hgr : w.heap.size < w1.heap.size := Blk.lt K1.out
  clear hB hB2 hr
  obtain ⟨gr, hgre⟩ : ∃ gr, gr = w1.heap.size := ⟨_, rfl⟩
  rw [← hgre] at HR hgr ⊢
  clear hgre
  go_wp2_with fail
  refine (take_any m Hm.out.2.1 Hm.out.2.2.1 Hm.out.2.2.2 (numL g) gr _ HR.out).mono ?_
  rintro e w3 ⟨rfl, hr, hm⟩
  have HR := Lib.hid (show RdAt w3 gr ⟨numL g ++ [], 0⟩ by rw [List.append_nil]; exact hr)
  have K3 := Lib.hid (K2.out.kept hm (fun e => by have e : w.heap.size = gr := e; omega))
  have HB3 := Lib.hid (hm.over HB2.out (by omega))
  clear hr hm
  unfold Man.cells
  go_wp2_with fail
  refine (rget_any g 1048576 [] hg (by decide) gr _ HR.out).mono ?_
  rintro e w4 ⟨rfl, hr, hm⟩
  have HR := Lib.hid hr
  have K4 := Lib.hid (K3.out.kept hm (fun e => by have e : w.heap.size = gr := e; omega))
  have HB4 := Lib.hid (hm.over HB3.out (by omega))
  clear hr hm
  go_wp2_with fail
  have hal : Below w4.heap.size w4 (w4.alloc (.cells #[.int .i64 (m.v : Int), .int .i64 (m.n : Int), .string (bs m.d), .int .i64 (g : Int)] 71)) := (Below.refl _ _).alloc (Nat.le_refl _) _
  refine (end_any ⟨[], 0⟩ gr _ (Blk.below HR.out hal)).mono ?_
  rintro e w5 ⟨rfl, rfl⟩
  have k5 := K4.out.below hal
  have hb5 := HB4.out.trans (hal.mono HB4.out.size)
  have g5 := Blk.new w4 #[.int .i64 (m.v : Int), .int .i64 (m.n : Int), .string (bs m.d), .int .i64 (g : Int)] 71
  obtain ⟨w5, hw5⟩ : ∃ w5, w5 = w4.alloc (.cells #[.int .i64 (m.v : Int), .int .i64 (m.n : Int), .string (bs m.d), .int .i64 (g : Int)] 71) := ⟨_, rfl⟩
  rw [← hw5] at k5 hb5 g5 ⊢
  have hg5 : w.heap.size < w4.heap.size := Blk.lt K4.out
  obtain ⟨gp, hgp⟩ : ∃ gp, gp = w4.heap.size := ⟨_, rfl⟩
  rw [← hgp] at g5 hg5 ⊢
  clear hw5 hgp hal
  have b0 : w5.cell? ⟨w.heap.size, 0, none⟩ = some (.int .i64 0) := k5.cell 0
  have b1 : w5.cell? ⟨w.heap.size, 1, none⟩ = some (.int .i64 0) := k5.cell 1
  have b2 : w5.cell? ⟨w.heap.size, 2, none⟩ = some (.string { data := #[] }) := k5.cell 2
  have b3 : w5.cell? ⟨w.heap.size, 3, none⟩ = some (.int .i64 0) := k5.cell 3
  have d0 : w5.cell? ⟨gp, 0, none⟩ = some (.int .i64 (m.v : Int)) := g5.cell 0
  have d1 : w5.cell? ⟨gp, 1, none⟩ = some (.int .i64 (m.n : Int)) := g5.cell 1
  have d2 : w5.cell? ⟨gp, 2, none⟩ = some (.string (bs m.d)) := g5.cell 2
  have d3 : w5.cell? ⟨gp, 3, none⟩ = some (.int .i64 (g : Int)) := g5.cell 3
  have fb := fun i => Blk.free k5 i
  have K5 := Lib.hid k5
  have HB5 := Lib.hid hb5
  clear k5 hb5 g5
  rw [show (Rdr.mk [] 0).end = 0 from rfl]
  go_wp2_with fail
  refine bodyPost_ret (results_ct (p := 2) (u := 3) (ty := 71) (by kernel_rfl) _ _ w.heap.size 71 #[.int .i64 (m.v : Int), .int .i64 (m.n : Int), .string (bs m.d), .int .i64 (g : Int)] _ rfl (blk_put4 K5.out _ _ _ _) Tryz.underlying71 rfl (by kernel_rfl)) rfl ?_
  exact ⟨rfl, below_put4 HB5.out (Nat.le_refl _) _ _ _ _⟩
theorem uprog_none {w : World} {u a : Nat} {x : US} (h : UsAt w u a x) (hp : x.pn = none) : Calls Tryz.prog 25 #[.pointer (some ⟨u, 0, none⟩)] w fun e w' => e = .returned (.tuple #[.agg #[.int .i64 0, .int .i64 0, .string { data := #[] }, .int .i64 0], .int .i64 224]) ∧ Below w.heap.size w w' := by
  have c0 := h.c0
  have H := Lib.hid h
  have Hg := Lib.hid (show page? x.tree 3 3 = none by
    show bootPg x 3 = _
    unfold bootPg
    rw [if_neg (by decide), if_neg (by decide), if_neg (by decide), if_pos rfl, hp]
    rfl)
  have q1 := methGet a
  clear h hp
  have hal : Below w.heap.size w (w.alloc (.cells #[.int .i64 0, .int .i64 0, .string { data := #[] }, .int .i64 0] 71)) := (Below.refl _ _).alloc (Nat.le_refl _) _
  have K := Lib.hid (Blk.new w #[.int .i64 0, .int .i64 0, .string { data := #[] }, .int .i64 0] 71)
  have HA := Lib.hid hal
  have c0a : (w.alloc (.cells #[.int .i64 0, .int .i64 0, .string { data := #[] }, .int .i64 0] 71)).cell? ⟨u, 0, none⟩ = some (.iface 25 (.pointer (some ⟨a, 0, none⟩))) := (H.out.below hal).c0
  clear hal
  go_enter Tryz.func25, Tryz.ntmps25
  go_wp2_with fail
  refine (uget_none (H.out.below HA.out) (by decide) (by decide) Hg.out).mono ?_
  rintro e w1 ⟨rfl, hB⟩
  have hB1 := HA.out.trans (hB.mono (by simp))
  have k1 := K.out.below hB
  have HB := Lib.hid hB1
  clear hB hB1 c0 c0a
  have b0 : w1.cell? ⟨w.heap.size, 0, none⟩ = some (.int .i64 0) := k1.cell 0
  have b1 : w1.cell? ⟨w.heap.size, 1, none⟩ = some (.int .i64 0) := k1.cell 1
  have b2 : w1.cell? ⟨w.heap.size, 2, none⟩ = some (.string { data := #[] }) := k1.cell 2
  have b3 : w1.cell? ⟨w.heap.size, 3, none⟩ = some (.int .i64 0) := k1.cell 3
  have fb := fun i => Blk.free k1 i
  have K1 := Lib.hid k1
  clear k1
  go_wp2_with fail
  refine bodyPost_ret (results_ct (p := 2) (u := 3) (ty := 71) (by kernel_rfl) _ _ w.heap.size 71 #[.int .i64 0, .int .i64 0, .string { data := #[] }, .int .i64 0] _ rfl (blk_put4 K1.out _ _ _ _) Tryz.underlying71 rfl (by kernel_rfl)) rfl ?_
  exact ⟨rfl, below_put4 HB.out (Nat.le_refl _) _ _ _ _⟩
theorem uman_some {w : World} {u a : Nat} {x : US} (h : UsAt w u a x) (s : Bool) {m : Man} (hp : x.m s = some m) (hm : m.Ok) : Calls Tryz.prog 26 #[.pointer (some ⟨u, 0, none⟩), .int .i64 (if s then 1 else 0)] w fun e w' => e = .returned (.tuple #[.agg #[.int .i64 (m.v : Int), .int .i64 (m.n : Int), .string (bs m.d)], .int .i64 0]) ∧ Below w.heap.size w w' := by
  have c0 := h.c0
  have H := Lib.hid h
  have hpg : page? x.tree 3 (sid s) = some (bs (manB m)) := by
    show bootPg x (sid s) = _
    unfold bootPg
    cases s
    · show (x.m false).map _ = _
      rw [hp]; rfl
    · show (x.m true).map _ = _
      rw [hp]; rfl
  have q1 := methGet a
  have Hm := Lib.hid hm
  clear h hp hm
  have hal : Below w.heap.size w (w.alloc (.cells #[.int .i64 0, .int .i64 0, .string { data := #[] }] 34)) := (Below.refl _ _).alloc (Nat.le_refl _) _
  have K := Lib.hid (Blk.new w #[.int .i64 0, .int .i64 0, .string { data := #[] }] 34)
  have HA := Lib.hid hal
  have c0a : (w.alloc (.cells #[.int .i64 0, .int .i64 0, .string { data := #[] }] 34)).cell? ⟨u, 0, none⟩ = some (.iface 25 (.pointer (some ⟨a, 0, none⟩))) := (H.out.below hal).c0
  clear hal
  have HG := Lib.hid (show ∀ W, UsAt W u a x → Calls Tryz.prog 133 #[.pointer (some ⟨a, 0, none⟩), .int .i64 3, .int .i64 (sid s)] W fun e w' => e = .returned (.tuple #[.string (bs (manB m)), .int .i64 0]) ∧ Below W.heap.size W w' from fun W hW => uget_some hW (by decide) (by have := sid_in s; omega) hpg)
  have hs1 : (if s then (1 : Int) else 0) = sid s - 1 := by cases s <;> rfl
  have hsi := sid_in s
  rw [hs1]
  obtain ⟨z, hz⟩ : ∃ z, z = sid s := ⟨_, rfl⟩
  rw [← hz] at HG hsi ⊢
  clear hz hs1 hpg
  have z1 : ¬ z - 1 < 0 := by omega
  have z2 : ¬ 1 < z - 1 := by omega
  have z3 : 1 + (z - 1) = z := by omega
  go_enter Tryz.func26, Tryz.ntmps26
  go_wp2_with fail
  refine (HG.out _ (H.out.below HA.out)).mono ?_
  rintro e w1 ⟨rfl, hB⟩
  have hB1 := HA.out.trans (hB.mono (by simp))
  have K1 := Lib.hid (K.out.below hB)
  have HB := Lib.hid hB1
  clear hB hB1 c0 c0a
  go_wp2_with fail
  refine (new_any _ _).mono ?_
  rintro e w2 ⟨rfl, hr, hB⟩
  have hB2 := HB.out.trans (hB.mono HB.out.size)
  have K2 := Lib.hid (K1.out.below hB)
  have HB2 := Lib.hid hB2
  have HR := Lib.hid (show RdAt w2 w1.heap.size ⟨manB m ++ [], 0⟩ by rw [List.append_nil]; exact hr)
  have hgr : w.heap.size < w1.heap.size := Blk.lt K1.out
  clear hB hB2 hr
  obtain ⟨gr, hgre⟩ : ∃ gr, gr = w1.heap.size := ⟨_, rfl⟩
  rw [← hgre] at HR hgr ⊢
  clear hgre
  go_wp2_with fail
  refine (take_any m Hm.out.2.1 Hm.out.2.2.1 Hm.out.2.2.2 [] gr _ HR.out).mono ?_
  rintro e w4 ⟨rfl, hr, hm⟩
  have HR := Lib.hid hr
  have K4 := Lib.hid (K2.out.kept hm (fun e => by have e : w.heap.size = gr := e; omega))
  have HB4 := Lib.hid (hm.over HB2.out (by omega))
  clear hr hm
  unfold Man.cells
  go_wp2_with fail
  have hal : Below w4.heap.size w4 (w4.alloc (.cells #[.int .i64 (m.v : Int), .int .i64 (m.n : Int), .string (bs m.d)] 34)) := (Below.refl _ _).alloc (Nat.le_refl _) _
  refine (end_any ⟨[], 0⟩ gr _ (Blk.below HR.out hal)).mono ?_
  rintro e w5 ⟨rfl, rfl⟩
  have k5 := K4.out.below hal
  have hb5 := HB4.out.trans (hal.mono HB4.out.size)
  have g5 := Blk.new w4 #[.int .i64 (m.v : Int), .int .i64 (m.n : Int), .string (bs m.d)] 34
  obtain ⟨w5, hw5⟩ : ∃ w5, w5 = w4.alloc (.cells #[.int .i64 (m.v : Int), .int .i64 (m.n : Int), .string (bs m.d)] 34) := ⟨_, rfl⟩
  rw [← hw5] at k5 hb5 g5 ⊢
  have hg5 : w.heap.size < w4.heap.size := Blk.lt K4.out
  obtain ⟨gp, hgp⟩ : ∃ gp, gp = w4.heap.size := ⟨_, rfl⟩
  rw [← hgp] at g5 hg5 ⊢
  clear hw5 hgp hal
  have b0 : w5.cell? ⟨w.heap.size, 0, none⟩ = some (.int .i64 0) := k5.cell 0
  have b1 : w5.cell? ⟨w.heap.size, 1, none⟩ = some (.int .i64 0) := k5.cell 1
  have b2 : w5.cell? ⟨w.heap.size, 2, none⟩ = some (.string { data := #[] }) := k5.cell 2
  have d0 : w5.cell? ⟨gp, 0, none⟩ = some (.int .i64 (m.v : Int)) := g5.cell 0
  have d1 : w5.cell? ⟨gp, 1, none⟩ = some (.int .i64 (m.n : Int)) := g5.cell 1
  have d2 : w5.cell? ⟨gp, 2, none⟩ = some (.string (bs m.d)) := g5.cell 2
  have fb := fun i => Blk.free k5 i
  have K5 := Lib.hid k5
  have HB5 := Lib.hid hb5
  clear k5 hb5 g5
  rw [show (Rdr.mk [] 0).end = 0 from rfl]
  go_wp2_with fail
  refine bodyPost_ret (results_ct (p := 4) (u := 5) (ty := 34) (by kernel_rfl) _ _ w.heap.size 34 #[.int .i64 (m.v : Int), .int .i64 (m.n : Int), .string (bs m.d)] _ rfl (blk_put3 K5.out _ _ _) Tryz.underlying34 rfl (by kernel_rfl)) rfl ?_
  exact ⟨rfl, below_put3 HB5.out (Nat.le_refl _) _ _ _⟩
end Go.Proofs.YticnmogeknlmeaaGreatDoor.B
namespace Go.Proofs.YticnmogeknlmeaaGreatDoor.B
open Go.RowKit Go.Maps Go.Proofs.YticnmogeknlmeaaGreatDoorW.PrintWords Go.Proofs.YticnmogeknlmeaaGreatDoor.Later
set_option maxRecDepth 100000
set_option maxHeartbeats 1600000
theorem strCells_bs (ys : List UInt8) : Lib.strCells (bs ys) = encs encB ys := by
  simp [Lib.strCells, encs, encB, bs]
section
variable {ops : Array Oper} {rest : List Oper} {o : Oper} {a : Act} {Q : Exit → Act → World → Prop}
theorem append_str {w0 W : World} (base : Nat) (hgd : o.guard = none) (s x : Operand) (ho : o.op = .call { callee := .builtin .append, args := #[s, x], argTypes := #[60, 9] }) (v : Value) (xs ys : List UInt8) (hs : a.eval s = v) (hx : a.eval x = .string (bs ys))
    (HO : Row W base v xs) (HB : Below base w0 W) (hbase : base ≤ W.heap.size) (hl : xs.length + ys.length ≤ 140737488355328)
    (h : ∀ v1 w1, Row w1 base v1 (xs ++ ys) → Below base w0 w1 → wpList Tryz.prog ops Q rest (a.put o.dst v1) w1) : wpList Tryz.prog ops Q (o :: rest) a W := by
  obtain ⟨i0, hi, hzz⟩ := Option.map_eq_some_iff.1 info5
  simp only [Prod.mk.injEq] at hzz
  obtain ⟨hz0, hz1, hz2⟩ := hzz
  refine Lib.wpList_append_own_string W hgd s x 60 9 ho base 5 i0 Tryz.underlying60 Tryz.underlying9 hi hz0 hz1 hz2 v xs.length (encs encB xs) hs HO (bs ys) hx (by rw [bs_size]; simp only [maxLen]; omega) (by rw [bs_size]; exact hl) hbase ?_
  intro v1 w1 hown hg _
  rw [strCells_bs, bs_size] at hown
  refine h v1 w1 ?_ (HB.grown hg hbase (own_base HO))
  show w1.ownsRow base 5 1 v1 (xs ++ ys).length (encs encB (xs ++ ys))
  rw [List.length_append, show encs encB (xs ++ ys) = encs encB xs ++ encs encB ys by simp [encs]]
  exact hown
end
theorem Row.nil (w : World) (base : Nat) : Row w base (.slice none 0 0) [] := own_nil _ _ _ _
theorem Row.conv {w : World} {base : Nat} {v : Value} {xs : List UInt8} (h : Row w base v xs) : ∃ A cap, v = .slice A xs.length cap ∧ (convert 60 9 v).run Tryz.prog w = .ok (.string (bs xs)) w := by
  have h' := h
  rcases h'.2 with ⟨rfl, h0⟩ | ⟨g, cap, cur, rfl, _⟩
  · obtain rfl : xs = [] := by
      cases xs with
      | nil => rfl
      | cons a l => simp at h0
    exact ⟨none, 0, rfl, by kernel_rfl⟩
  · exact ⟨_, _, rfl, h.string 60 (by kernel_rfl)⟩
theorem take_page (img : List UInt8) (i : Nat) : img.take (64 * (i + 1)) = img.take (64 * i) ++ pageOf img i := by
  unfold pageOf
  rw [show 64 * (i + 1) = 64 * i + 64 by omega, List.take_add]
theorem uimg_any {w : World} {u a : Nat} {x : US} (h : UsAt w u a x) (s : Bool) (img : List UInt8) (him : x.im s = img) (hl : img.length ≤ 64 * x.pg) (hp : x.pg ≤ 1024) : Calls Tryz.prog 20 #[.pointer (some ⟨u, 0, none⟩), .int .i64 (if s then 1 else 0), .int .i64 (img.length : Int)] w fun e w' => e = .returned (.tuple #[.string (bs img), .int .i64 0]) ∧ Below w.heap.size w w' := by
  have c0 := h.c0
  have c1 := h.c1
  have c2 := h.c2
  have H := Lib.hid h
  have hpg : ∀ i, i < nP img → page? x.tree (sid s) (i : Int) = some (bs (pageOf img i)) := fun i hi => by
    unfold page?
    rw [tree_sid, him]
    show pgsTo img (nP img) (i : Int) = _
    unfold pgsTo
    rw [if_pos ⟨by omega, by omega⟩]
    rfl
  have q1 := methGet a
  have hs1 : (if s then (1 : Int) else 0) = sid s - 1 := by cases s <;> rfl
  have hsi := sid_in s
  have hnp := nP_le hl
  have HG := Lib.hid (show ∀ W i, i < nP img → UsAt W u a x → Calls Tryz.prog 133 #[.pointer (some ⟨a, 0, none⟩), .int .i64 (sid s), .int .i64 (i : Int)] W fun e w' => e = .returned (.tuple #[.string (bs (pageOf img i)), .int .i64 0]) ∧ Below W.heap.size W w' from fun W i hi hW => uget_some hW (by omega) (by omega) (hpg i hi))
  rw [hs1]
  obtain ⟨z, hz⟩ : ∃ z, z = sid s := ⟨_, rfl⟩
  rw [← hz] at HG hsi ⊢
  have HN := Lib.hid hnp
  clear hz hs1 hpg h him hnp
  have z1 : ¬ z - 1 < 0 := by omega
  have z2 : ¬ 1 < z - 1 := by omega
  have z3 : 1 + (z - 1) = z := by omega
  have d1 : decide ((x.pg : Int) * 64 < (img.length : Int)) = false := decide_eq_false (by omega)
  go_enter Tryz.func20, Tryz.ntmps20
  go_wp2_with fail
  go_quiet (fail)
  obtain ⟨w1, hw1⟩ : ∃ w1, w1 = w.drewN nq := ⟨_, rfl⟩
  have hb1 : Below w.heap.size w w1 := by rw [hw1]; exact below_drewN (Below.refl _ _) nq
  rw [← hw1]
  have HB1 := Lib.hid hb1
  have H1 := Lib.hid (H.out.below hb1)
  clear hw1 hb1 c0 c1 c2 d1
  go_wp2_with fail
  go_loopg [8, 9] (nP img) (fun g v y wx => ∃ i : Nat, i + g = nP img ∧ y = .int .i64 (i : Int) ∧ Row wx w.heap.size v (img.take (64 * i)) ∧ UsAt wx u a x ∧ Below w.heap.size w wx)
  case atStart => exact ⟨0, by omega, rfl, Row.nil _ _, H1.out, HB1.out⟩
  case round =>
    obtain ⟨i, hi, rfl, hR, hU, hB⟩ := hrel
    have HR := Lib.hid hR
    have HU := Lib.hid hU
    have HB := Lib.hid hB
    clear hR hU hB
    have c0 := HU.out.c0
    have c2 := HU.out.c2
    have hi24 : i ≤ 1024 := by have := HN.out; omega
    cases gk with
    | zero =>
      obtain rfl : i = nP img := by omega
      have hge : img.length ≤ 64 * nP img := by unfold nP; omega
      have hd : decide (((nP img : Nat) : Int) * 64 < (img.length : Int)) = false := decide_eq_false (by omega)
      have hR := HR.out
      rw [List.take_of_length_le hge] at hR
      obtain ⟨q, hq⟩ : ∃ q, q = nP img := ⟨_, rfl⟩
      rw [← hq] at hd hi24 ⊢
      clear hq hi
      obtain ⟨A, cap, rfl, hc⟩ := hR.conv
      clear HR hR
      go_wp2_with fail
      go_ret2
      exact ⟨rfl, HB.out⟩
    | succ g =>
      have hlt : i < nP img := by omega
      have hd : decide ((i : Int) * 64 < (img.length : Int)) = true := decide_eq_true (by unfold nP at hlt; omega)
      go_wp2_with fail
      refine (HG.out _ i hlt HU.out).mono ?_
      rintro e w2 ⟨rfl, hB2⟩
      have HR2 := Lib.hid (HR.out.below9 hB2)
      have HU2 := Lib.hid (HU.out.below hB2)
      have HB2 := Lib.hid (HB.out.trans (hB2.mono HB.out.size))
      have HT := Lib.hid (take_page img i)
      have hlp := pageOf_len img i
      have hlt2 : (img.take (64 * i)).length ≤ 65536 := by rw [List.length_take]; omega
      clear hB2 HR c0 c2 hd
      go_wp2_with (first | (at_builtin; (refine append_str (w0 := w) w.heap.size rfl (.tmp 63) (.tmp 64) rfl _ (img.take (64 * i)) (pageOf img i) rfl rfl HR2.out HB2.out ?s1 ?l1 ?_); (case s1 => exact HB2.out.size); (case l1 => omega); intro v1 w3 hR3 hB3; have HR3 := Lib.hid hR3; have HB3 := Lib.hid hB3; clear hR3 hB3))
      go_roundg g
      case measure => omega
      case rel => exact ⟨i + 1, by omega, by go_num, by rw [HT.out]; exact HR3.out, H.out.below HB3.out, HB3.out⟩
end Go.Proofs.YticnmogeknlmeaaGreatDoor.B
namespace Go.Proofs.YticnmogeknlmeaaGreatDoor.B
open Go.RowKit Go.Maps Go.Proofs.YticnmogeknlmeaaGreatDoorW.PrintWords Go.Proofs.YticnmogeknlmeaaGreatDoor.Later
set_option maxRecDepth 100000
set_option maxHeartbeats 1600000
theorem ucheck_any {w : World} {u a : Nat} {x : US} (h : UsAt w u a x) (s : Bool) (m : Man) (hn : (x.im s).length = m.n) (hl : m.n ≤ 64 * x.pg) (hp : x.pg ≤ 1024) : Calls Tryz.prog 45 #[.pointer (some ⟨u, 0, none⟩), .int .i64 (if s then 1 else 0), .agg #[.int .i64 (m.v : Int), .int .i64 (m.n : Int), .string (bs m.d)]] w fun e w' => e = .returned (.int .i64 (if shaL (x.im s) = m.d then 0 else 223)) ∧ Below w.heap.size w w' := by
  obtain ⟨img, him⟩ : ∃ img, img = x.im s := ⟨_, rfl⟩
  rw [← him] at hn ⊢
  have H := Lib.hid h
  have HI := Lib.hid (fun (W : World) (hW : UsAt W u a x) => uimg_any hW s img him.symm (by omega) hp)
  have HS := Lib.hid (fun W => sum_any img (by omega) W)
  rw [hn] at HI
  obtain ⟨z, hz⟩ : ∃ z : Int, z = (if s then 1 else 0) := ⟨_, rfl⟩
  rw [← hz] at HI ⊢
  obtain ⟨D, hD⟩ : ∃ D, D = shaL img := ⟨_, rfl⟩
  rw [← hD] at HS ⊢
  obtain ⟨R, hR⟩ : ∃ R : Int, R = (if D = m.d then 0 else 223) := ⟨_, rfl⟩
  rw [← hR]
  have HRR := Lib.hid hR
  clear hz hD him h hR
  have K := Lib.hid (Blk.new w #[.int .i64 (m.v : Int), .int .i64 (m.n : Int), .string (bs m.d)] 34)
  have HA := Lib.hid ((Below.refl w.heap.size w).alloc (Nat.le_refl _) (.cells #[.int .i64 (m.v : Int), .int .i64 (m.n : Int), .string (bs m.d)] 34))
  go_enter Tryz.func45, Tryz.ntmps45
  go_wp2_with fail
  refine (HI.out _ (H.out.below HA.out)).mono ?_
  rintro e w1 ⟨rfl, hB⟩
  have k1 := K.out.below hB
  have HB := Lib.hid (HA.out.trans (hB.mono (by simp)))
  clear hB
  have c2 : w1.cell? ⟨w.heap.size, 2, none⟩ = some (.string (bs m.d)) := k1.cell 2
  have k2 := fun n => later_cell c2 n
  clear k1
  have e1 : (bs D).toList = D := by rw [ByteArray.toList_eq, bs_list]
  have e2 : (bs m.d).toList = m.d := by rw [ByteArray.toList_eq, bs_list]
  by_cases hd : D = m.d
  · have hr : R = 0 := by rw [HRR.out, if_pos hd]
    have Hr := Lib.hid hr
    clear hr
    have hb1 : (D == m.d) = true := by simp [hd]
    go_wp2_with fail
    refine wp_region_later (by kernel_rfl) (by kernel_rfl) ?_
    repeat go_big_quiet_step (fail)
    go_big_quiet_step (with_reducible exact calls_later (fun w1 _ => HS.out w1) _)
    repeat go_big_quiet_step (fail)
    refine wpQuiet_nil ?_
    intro w2 hw2
    have HB2 := Lib.hid (HB.out.trans ((later_of hw2).mono HB.out.size))
    clear hw2 k2 c2
    go_wp2_with fail
    go_ret
    rw [Hr.out]
    exact ⟨rfl, HB2.out⟩
  · have hr : R = 223 := by rw [HRR.out, if_neg hd]
    have Hr := Lib.hid hr
    clear hr
    have hb1 : (D == m.d) = false := beq_eq_false_iff_ne.2 hd
    go_wp2_with fail
    refine wp_region_later (by kernel_rfl) (by kernel_rfl) ?_
    repeat go_big_quiet_step (fail)
    go_big_quiet_step (with_reducible exact calls_later (fun w1 _ => HS.out w1) _)
    repeat go_big_quiet_step (fail)
    refine wpQuiet_nil ?_
    intro w2 hw2
    have HB2 := Lib.hid (HB.out.trans ((later_of hw2).mono HB.out.size))
    clear hw2 k2 c2
    go_wp2_with fail
    go_ret
    rw [Hr.out]
    exact ⟨rfl, HB2.out⟩
end Go.Proofs.YticnmogeknlmeaaGreatDoor.B
namespace Go.Proofs.YticnmogeknlmeaaGreatDoor.B
open Go.RowKit Go.Proofs.YticnmogeknlmeaaGreatDoorW.PrintWords
set_option maxRecDepth 100000
set_option maxHeartbeats 1600000
theorem pi0 (x y : Int) (W : World) : (Go.part 3 #[.int .i64 x, .int .i64 y] 0).run Tryz.prog W = .ok (.int .i64 x) W := by kernel_rfl
theorem pi1 (x y : Int) (W : World) : (Go.part 3 #[.int .i64 x, .int .i64 y] 1).run Tryz.prog W = .ok (.int .i64 y) W := by kernel_rfl
theorem pb0 (x y : Bool) (W : World) : (Go.part 4 #[.bool x, .bool y] 0).run Tryz.prog W = .ok (.bool x) W := by kernel_rfl
theorem pb1 (x y : Bool) (W : World) : (Go.part 4 #[.bool x, .bool y] 1).run Tryz.prog W = .ok (.bool y) W := by kernel_rfl
theorem eq29 (d : Nat) (a0 a1 b0 b1 : Int) (W : World) : (Op.equalIn (d + 2) 29 (.agg #[.int .i64 a0, .int .i64 a1]) (.agg #[.int .i64 b0, .int .i64 b1])).run Tryz.prog W = .ok (a0 == b0 && a1 == b1) W := by
  have e0 := run_equalIn_int (P := Tryz.prog) W d 3 .i64 .i64 a0 b0 Tryz.underlying3
  have e1 := run_equalIn_int (P := Tryz.prog) W d 3 .i64 .i64 a1 b1 Tryz.underlying3
  rw [Op.equalIn]
  cases h0 : (a0 == b0) <;> cases h1 : (a1 == b1) <;> rw [h0] at e0 <;> rw [h1] at e1 <;> clear h0 h1 <;> simp [run_underlying Tryz.underlying29, List.range', List.forIn_cons, pi0, pi1, e0, e1]
theorem eq30 (d : Nat) (a0 a1 b0 b1 : Bool) (W : World) : (Op.equalIn (d + 2) 30 (.agg #[.bool a0, .bool a1]) (.agg #[.bool b0, .bool b1])).run Tryz.prog W = .ok (a0 == b0 && a1 == b1) W := by
  have e0 := run_equalIn_bool' (P := Tryz.prog) W d 4 a0 b0 Tryz.underlying4
  have e1 := run_equalIn_bool' (P := Tryz.prog) W d 4 a1 b1 Tryz.underlying4
  rw [Op.equalIn]
  cases h0 : (a0 == b0) <;> cases h1 : (a1 == b1) <;> rw [h0] at e0 <;> rw [h1] at e1 <;> clear h0 h1 <;> simp [run_underlying Tryz.underlying30, List.range', List.forIn_cons, pb0, pb1, e0, e1]
theorem neq_t (a0 a2 a3 a4 a5 b0 b2 b3 b4 b5 : Int) (a1 a6 a7 b1 b6 b7 : Bool) (W : World) : (binOp .neq 32 (.agg #[.int .i64 a0, .bool a1, .int .i64 a2, .int .i64 a3, .int .i64 a4, .int .i64 a5, .bool a6, .bool a7]) (.agg #[.int .i64 b0, .bool b1, .int .i64 b2, .int .i64 b3, .int .i64 b4, .int .i64 b5, .bool b6, .bool b7])).run Tryz.prog W = .ok (.bool (!(a0 == b0 && (a1 == b1 && (a2 == b2 && (a3 == b3 && ((a4 == b4 && a5 == b5) && (a6 == b6 && a7 == b7)))))))) W := by
  rw [run_neq_struct]
  have h : (Op.equalIn 10000 32 (.agg #[.int .i64 a0, .bool a1, .int .i64 a2, .int .i64 a3, .int .i64 a4, .int .i64 a5, .bool a6, .bool a7]) (.agg #[.int .i64 b0, .bool b1, .int .i64 b2, .int .i64 b3, .int .i64 b4, .int .i64 b5, .bool b6, .bool b7])).run Tryz.prog W = .ok (a0 == b0 && (a1 == b1 && (a2 == b2 && (a3 == b3 && ((a4 == b4 && a5 == b5) && (a6 == b6 && a7 == b7)))))) W := by
    refine eqA_of (d := 9999) Tryz.underlying32 (by kernel_rfl) ?_
    refine eqf_cons (by kernel_rfl) (by kernel_rfl) (by kernel_rfl) (run_equalIn_int W 9998 3 .i64 .i64 a0 b0 Tryz.underlying3) ?_
    refine eqf_cons (by kernel_rfl) (by kernel_rfl) (by kernel_rfl) (run_equalIn_bool' W 9998 4 a1 b1 Tryz.underlying4) ?_
    refine eqf_cons (by kernel_rfl) (by kernel_rfl) (by kernel_rfl) (run_equalIn_int W 9998 3 .i64 .i64 a2 b2 Tryz.underlying3) ?_
    refine eqf_cons (by kernel_rfl) (by kernel_rfl) (by kernel_rfl) (run_equalIn_int W 9998 3 .i64 .i64 a3 b3 Tryz.underlying3) ?_
    refine eqf_cons (by kernel_rfl) (by kernel_rfl) (by kernel_rfl) (eq29 9997 a4 a5 b4 b5 W) ?_
    exact eqf_last (by kernel_rfl) (by kernel_rfl) (by kernel_rfl) (eq30 9997 a6 a7 b6 b7 W)
  rw [h, Result.andThen_ok]
end Go.Proofs.YticnmogeknlmeaaGreatDoor.B
namespace Go.Proofs.YticnmogeknlmeaaGreatDoor.B
open Go.RowKit Go.Maps Go.Proofs.YticnmogeknlmeaaGreatDoorW.PrintWords Go.Proofs.YticnmogeknlmeaaGreatDoor.Later
set_option maxRecDepth 100000
set_option maxHeartbeats 1600000
/-- A block that is laid, and stays. -/
theorem laid {w1 w2 : World} {cs : Array Value} {t : TypeId} (h : Below (w1.alloc (.cells cs t)).heap.size (w1.alloc (.cells cs t)) w2) : Below w1.heap.size w1 w2 ∧ Blk w2 w1.heap.size cs t :=
  ⟨((Below.refl _ _).alloc (Nat.le_refl _) _).trans (h.mono (by simp)), (Blk.new w1 cs t).below h⟩
theorem MdAt.setCell {w : World} {a g : Nat} {M : Md} {cs : Array Value} {t : TypeId} (h : MdAt w a M) (hg : Blk w g cs t) (hne : a ≠ g) (i : Nat) (v : Value) : MdAt (w.setCell ⟨g, i, none⟩ v) a M := by
  obtain ⟨np, oo, n, h1, h2, h3, h4, h5⟩ := h
  exact ⟨np, oo, n, Blk.far h1 (p := ⟨g, i, none⟩) hne v, h2.setCell hg i v, h3, h4.setCell hg i v, h5⟩
theorem UsAt.setCell {w : World} {u a g : Nat} {x : US} {cs : Array Value} {t : TypeId} (h : UsAt w u a x) (hg : Blk w g cs t) (hu : u ≠ g) (ha : a ≠ g) (i : Nat) (v : Value) : UsAt (w.setCell ⟨g, i, none⟩ v) u a x := by
  obtain ⟨M, h1, h2, h3⟩ := h
  exact ⟨M, Blk.far h1 (p := ⟨g, i, none⟩) hu v, h2.setCell hg ha i v, h3⟩
theorem UsAt.ul {w : World} {u a : Nat} {x : US} (h : UsAt w u a x) : u < w.heap.size := by
  obtain ⟨M, h1, _⟩ := h
  exact Blk.lt h1
theorem ustart_x {w : World} {u a : Nat} {x : US} (h : UsAt w u a x) (hx : x.Ok) (m : Man) (hm : x.m x.b.start.ac = some m) (hmo : m.Ok) (hn : (x.im x.b.start.ac).length = m.n) (hd : shaL (x.im x.b.start.ac) = m.d) (a0 a2 a3 a4 a5 b0 b2 b3 b4 b5 : Int) (a1 a6 a7 b1 b6 b7 : Bool)
    (hV : x.b.V = #[.int .i64 a0, .bool a1, .int .i64 a2, .int .i64 a3, .int .i64 a4, .int .i64 a5, .bool a6, .bool a7]) (hV2 : x.b.start.V = #[.int .i64 b0, .bool b1, .int .i64 b2, .int .i64 b3, .int .i64 b4, .int .i64 b5, .bool b6, .bool b7])
    (hE : (b0 == a0 && (b1 == a1 && (b2 == a2 && (b3 == a3 && ((b4 == a4 && b5 == a5) && (b6 == a6 && b7 == a7)))))) = true → x.b.start = x.b) :
    Calls Tryz.prog 19 #[.pointer (some ⟨u, 0, none⟩)] w fun e w' => e = .returned (.tuple #[.agg #[.int .i64 (if x.b.start.ac then 1 else 0), .int .i64 (m.v : Int)], .int .i64 0]) ∧ UsAt w' u a { x with b := x.b.start } ∧ Mut (only a) w w' := by
  have hal := h.al
  have hb := fun W (hW : UsAt W u a x) => boot_any hW hx.b
  rw [hV] at hb
  have hst := fun W => tstart_any x.b hx.b W
  rw [hV, hV2] at hst
  have hk := fun W (hW : UsAt W u a x) => keep_any hW hx x.b.start hx.b.start
  rw [hV2] at hk
  have hman := fun W (hW : UsAt W u a x) => uman_some hW x.b.start.ac hm hmo
  have hch := fun W (hW : UsAt W u a x) => ucheck_any hW x.b.start.ac m hn (by have := hx.im x.b.start.ac; omega) hx.pg1
  rw [hd, if_pos rfl] at hch
  obtain ⟨z, hz⟩ : ∃ z : Int, z = (if x.b.start.ac then 1 else 0) := ⟨_, rfl⟩
  rw [← hz] at hst hman hch ⊢
  obtain ⟨bb, hbb⟩ : ∃ bb, bb = x.b.start := ⟨_, rfl⟩
  rw [← hbb] at hk hE ⊢
  have hne := fun W => neq_t b0 b2 b3 b4 b5 a0 a2 a3 a4 a5 b1 b6 b7 a1 a6 a7 W
  obtain ⟨E, hEE⟩ : ∃ E, E = (b0 == a0 && (b1 == a1 && (b2 == a2 && (b3 == a3 && ((b4 == a4 && b5 == a5) && (b6 == a6 && b7 == a7)))))) := ⟨_, rfl⟩
  rw [← hEE] at hE hne
  have H := Lib.hid h
  have Hb := Lib.hid hb
  have Hst := Lib.hid hst
  have Hk := Lib.hid hk
  have Hman := Lib.hid hman
  have Hch := Lib.hid hch
  have HE := Lib.hid hE
  have HAL := Lib.hid hal
  clear h hb hst hk hman hch hE hEE hbb hz hV hV2 hn hd hm hmo hal
  have HA := Lib.hid ((Below.refl w.heap.size w).alloc (Nat.le_refl _) (.cells #[.int .i64 0, .int .i64 0] 54))
  go_enter Tryz.func19, Tryz.ntmps19
  go_wp2_with fail
  refine (Hb.out _ (H.out.below HA.out)).mono ?_
  rintro e w1 ⟨rfl, hB⟩
  obtain ⟨hB, k2⟩ := laid hB
  have HB1 := Lib.hid hB
  have K2 := Lib.hid k2
  have H1 := Lib.hid (H.out.below hB)
  clear hB k2
  go_wp2_with fail
  refine (Hst.out _).mono ?_
  rintro e w2 ⟨rfl, hB⟩
  obtain ⟨hB, k4⟩ := laid hB
  have HB2 := Lib.hid (HB1.out.trans (hB.mono HB1.out.size))
  have K2 := Lib.hid (K2.out.below hB)
  have K4 := Lib.hid k4
  have H2 := Lib.hid (H1.out.below hB)
  have hl4 : w.heap.size < w1.heap.size := Blk.lt ‹Hid (Blk w1 w.heap.size _ 54)›.out
  clear hB k4
  obtain ⟨g4, hg4⟩ : ∃ g4, g4 = w1.heap.size := ⟨_, rfl⟩
  rw [← hg4] at K4 hl4 ⊢
  clear hg4
  go_wp2_with fail
  refine (Hman.out _ (H2.out.below ((Below.refl _ _).alloc (Nat.le_refl _) _))).mono ?_
  rintro e w3 ⟨rfl, hB⟩
  obtain ⟨hB, k7⟩ := laid hB
  have HB3 := Lib.hid (HB2.out.trans (hB.mono HB2.out.size))
  have hl7 : g4 < w2.heap.size := Blk.lt K4.out
  have K2 := Lib.hid (K2.out.below hB)
  have K4 := Lib.hid (K4.out.below hB)
  have K7 := Lib.hid k7
  have H3 := Lib.hid (H2.out.below hB)
  clear hB k7
  obtain ⟨g7, hg7⟩ : ∃ g7, g7 = w2.heap.size := ⟨_, rfl⟩
  rw [← hg7] at K7 hl7 ⊢
  clear hg7
  go_wp2_with fail
  refine (Hch.out _ (H3.out.below ((Below.refl _ _).alloc (Nat.le_refl _) _))).mono ?_
  rintro e w4 ⟨rfl, hB⟩
  obtain ⟨hB, k8⟩ := laid hB
  have HB4 := Lib.hid (HB3.out.trans (hB.mono HB3.out.size))
  have hl8 : g7 < w3.heap.size := Blk.lt K7.out
  have K2 := Lib.hid (K2.out.below hB)
  have K4 := Lib.hid (K4.out.below hB)
  have K7 := Lib.hid (K7.out.below hB)
  have K8 := Lib.hid k8
  have H4 := Lib.hid (H3.out.below hB)
  clear hB k8
  obtain ⟨g8, hg8⟩ : ∃ g8, g8 = w3.heap.size := ⟨_, rfl⟩
  rw [← hg8] at K8 hl8 ⊢
  clear hg8
  obtain ⟨c0, c1, c2, c3, c4, c5, c6, c7⟩ := cells8 K4.out
  obtain ⟨d0, d1, d2, d3, d4, d5, d6, d7⟩ := cells8 K7.out
  have e0 : w4.cell? ⟨g8, 0, none⟩ = some (.int .i64 (m.v : Int)) := K8.out.cell 0
  have f0 : w4.cell? ⟨w.heap.size, 0, none⟩ = some (.int .i64 0) := K2.out.cell 0
  have f1 : w4.cell? ⟨w.heap.size, 1, none⟩ = some (.int .i64 0) := K2.out.cell 1
  have ff := fun i => Blk.free K2.out i
  cases E with
  | true =>
    have he := HE.out rfl
    have Heq := Lib.hid (show ({ x with b := bb } : US) = x by rw [he])
    clear he
    go_wp2_with fail
    rw [Heq.out]
    have k9 : Blk _ w.heap.size #[.int .i64 z, .int .i64 (m.v : Int)] 54 := blk_eq ((K2.out.set 0 (.int .i64 z)).set 1 (.int .i64 (m.v : Int))) (by simp)
    refine bodyPost_ret (results_ct (p := 2) (u := 3) (ty := 54) (by kernel_rfl) _ _ w.heap.size 54 #[.int .i64 z, .int .i64 (m.v : Int)] _ rfl k9 Tryz.underlying54 rfl (by kernel_rfl)) rfl ?_
    have hbf := (HB4.out.setCell (p := ⟨w.heap.size, 0, none⟩) (Nat.le_refl _) (.int .i64 z)).setCell (p := ⟨w.heap.size, 1, none⟩) (Nat.le_refl _) (.int .i64 (m.v : Int))
    exact ⟨rfl, H.out.below hbf, Mut.of_below hbf⟩
  | false =>
    go_wp2_with fail
    refine (Hk.out _ H4.out).mono ?_
    rintro e w5 ⟨rfl, hU, hm⟩
    have hna : ∀ i, w.heap.size ≤ i → ¬ only a i := fun i hi e => by have e : i = a := e; have := HAL.out; omega
    have k8 := K8.out.kept hm (hna g8 (by omega))
    have k2 := K2.out.kept hm (hna _ (Nat.le_refl _))
    have HU := Lib.hid hU
    have HM := Lib.hid ((Mut.of_below (S := only a) HB4.out).trans hm)
    have K2 := Lib.hid k2
    have e0' : w5.cell? ⟨g8, 0, none⟩ = some (.int .i64 (m.v : Int)) := k8.cell 0
    have f0' : w5.cell? ⟨w.heap.size, 0, none⟩ = some (.int .i64 0) := k2.cell 0
    have f1' : w5.cell? ⟨w.heap.size, 1, none⟩ = some (.int .i64 0) := k2.cell 1
    have ff' := fun i => Blk.free k2 i
    have k9 : Blk _ w.heap.size #[.int .i64 z, .int .i64 (m.v : Int)] 54 := blk_eq ((K2.out.set 0 (.int .i64 z)).set 1 (.int .i64 (m.v : Int))) (by simp)
    have K9 := Lib.hid k9
    clear hU hm hna k8 k2 k9
    go_wp2_with fail
    refine bodyPost_ret (results_ct (p := 2) (u := 3) (ty := 54) (by kernel_rfl) _ _ w.heap.size 54 #[.int .i64 z, .int .i64 (m.v : Int)] _ rfl K9.out Tryz.underlying54 rfl (by kernel_rfl)) rfl ?_
    refine ⟨rfl, ?_, (HM.out.setNew (p := ⟨w.heap.size, 0, none⟩) (Nat.le_refl _) _).setNew (p := ⟨w.heap.size, 1, none⟩) (Nat.le_refl _) _⟩
    have hul := H.out.ul
    have hal := HAL.out
    exact (HU.out.setCell K2.out (by omega) (by omega) 0 _).setCell (K2.out.set 0 _) (by omega) (by omega) 1 _
theorem ustart_any {w : World} {u a : Nat} {x : US} (h : UsAt w u a x) (hx : x.Ok) (m : Man) (hm : x.m x.b.start.ac = some m) (hmo : m.Ok) (hn : (x.im x.b.start.ac).length = m.n) (hd : shaL (x.im x.b.start.ac) = m.d) :
    Calls Tryz.prog 19 #[.pointer (some ⟨u, 0, none⟩)] w fun e w' => e = .returned (.tuple #[.agg #[.int .i64 (if x.b.start.ac then 1 else 0), .int .i64 (m.v : Int)], .int .i64 0]) ∧ UsAt w' u a { x with b := x.b.start } ∧ Mut (only a) w w' := by
  obtain ⟨pg, b, xm, im, pn⟩ := x
  obtain ⟨ac, tr, gd, n, ls, va, vo⟩ := b
  have ht0 := hx.b.t0
  have ht1 := hx.b.t1
  cases tr with
  | false =>
    have e : (Bt.mk ac false gd n ls va vo).start = Bt.mk ac false gd n ls va vo := rfl
    cases ac
    · exact ustart_x h hx m hm hmo hn hd 0 n ls va vo 0 n ls va vo false true gd false true gd rfl rfl (fun _ => e)
    · exact ustart_x h hx m hm hmo hn hd 1 n ls vo va 1 n ls vo va false gd true false gd true rfl rfl (fun _ => e)
  | true =>
    obtain ⟨hgd, _⟩ := ht1 rfl
    have hgd : gd = true := hgd
    subst hgd
    cases n with
    | zero =>
      have e : (Bt.mk ac true true 0 ls va vo).start = Bt.mk (!ac) false false 0 ls vo va := rfl
      cases ac
      · exact ustart_x h hx m hm hmo hn hd 0 0 ls va vo 1 0 ls va vo true true true false false true rfl rfl (fun k => absurd k (by simp))
      · exact ustart_x h hx m hm hmo hn hd 1 0 ls vo va 0 0 ls vo va true true true false true false rfl rfl (fun k => absurd k (by simp))
    | succ n =>
      have e : (Bt.mk ac true true (n + 1) ls va vo).start = Bt.mk ac true true n ls va vo := rfl
      cases ac
      · exact ustart_x h hx m hm hmo hn hd 0 ((n + 1 : Nat) : Int) ls va vo 0 n ls va vo true true true true true true rfl rfl (fun k => absurd k (by simp; omega))
      · exact ustart_x h hx m hm hmo hn hd 1 ((n + 1 : Nat) : Int) ls vo va 1 n ls vo va true true true true true true rfl rfl (fun k => absurd k (by simp; omega))
end Go.Proofs.YticnmogeknlmeaaGreatDoor.B
