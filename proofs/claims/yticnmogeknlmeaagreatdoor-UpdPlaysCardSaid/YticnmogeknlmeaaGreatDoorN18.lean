/- Helper: the plain device in memory: a step; walked. the plain device in memory: records done; walked. the plain device in memory: pages put; walked. the plain device in memory: pages put; walked. what dropping a space and trimming a page do to a tree, walked. No condition. -/
import Derived.Test.YticnmogeknlmeaaGreatDoorN17
namespace Go.Proofs.YticnmogeknlmeaaGreatDoor.B
open Go.RowKit Go.Maps Go.Proofs.YticnmogeknlmeaaGreatDoorW.PrintWords
set_option maxRecDepth 100000
set_option maxHeartbeats 1600000
/-- What a step's own function does. -/
def CPost (a base tp : Nat) (wa : World) (x : Int × Tree) (e : Ending) (w' : World) : Prop :=
  e = .returned (.int .i64 x.1) ∧ Mut (fun i => i = a ∨ base ≤ i) wa w' ∧ (x.1 = 0 → TreeAt base w' tp x.2) ∧ ∀ np oo M n, Blk wa a (mdCells np oo M n) 118 → I64 n → ∃ n', Blk w' a (mdCells np oo M n') 118 ∧ I64 n'
def mStep (M : Md) (x : Int × Tree) : Int × Md :=
  if 8 ≤ M.many then (171, M) else if x.1 ≠ 0 then (x.1, M) else (0, { M with opn := some x.2, many := M.many + 1 })
theorem step_m (M : Md) (a : Nat) (w : World) (h : MdAt w a M) (T : Tree) (hO : M.opn = some T) (hm : 0 ≤ M.many) (g : Nat) (caps : Array Value) (x : Int × Tree) (hx : x.1 = 0 → WfT x.2 ∧ (total x.2 : Int) ≤ M.pl ∧ (total x.2 : Int) ≤ M.ks ∧ total x.2 < 100000)
    (hcall : ∀ (W : World) (v : Value), (callFunc g (#[v] ++ caps)).run Tryz.prog W = .ok (.enter g (#[v] ++ caps)) W)
    (hf : ∀ (wa : World), TreeAt w.heap.size wa w.heap.size T → Below w.heap.size w wa → Calls Tryz.prog g (#[.map (some w.heap.size)] ++ caps) wa (CPost a w.heap.size w.heap.size wa x)) :
    Calls Tryz.prog 139 #[.pointer (some ⟨a, 0, none⟩), .func (.func g) #[] caps] w fun e w' => e = .returned (.int .i64 (mStep M x).1) ∧ MdAt w' a (mStep M x).2 ∧ Mut (only a) w w' := by
  have hmd := h
  obtain ⟨np, oo, n, hb, ht, hw, ho, hn⟩ := h
  have c1 : w.cell? ⟨a, 1, none⟩ = some (.map oo) := hb.cell 1
  have c7 : w.cell? ⟨a, 7, none⟩ = some (.int .i64 M.many) := hb.cell 7
  rw [hO] at ho
  obtain ⟨tp, rfl, h1, h2⟩ := ho
  have Hmd := Lib.hid hmd
  have Hb := Lib.hid hb
  have Ht := Lib.hid ht
  have H1 := Lib.hid h1
  have Hf := Lib.hid hf
  have hal := hb.lt
  clear hmd hb ht h1 hf
  by_cases h8 : 8 ≤ M.many
  · go_enter Tryz.func139, Tryz.ntmps139
    go_wp2
    go_ret
    have e : mStep M x = (171, M) := by simp [mStep, h8]
    rw [e]
    exact ⟨rfl, Hmd.out, Mut.refl _ _⟩
  · go_enter Tryz.func139, Tryz.ntmps139
    go_wp2_with fail
    refine (tclone_any T h2 0 tp w H1.out).mono ?_
    rintro e w1 ⟨rfl, hc, hB⟩
    have HC := Lib.hid hc
    have HB := Lib.hid hB
    clear hc hB
    go_wp2_with fail
    refine (Hf.out w1 HC.out HB.out).mono ?_
    rintro e w2 ⟨rfl, hm2, hT2, hn2⟩
    obtain ⟨n', hb2, hn'⟩ := hn2 _ _ _ _ (Hb.out.below HB.out) hn
    have hmw : Mut (only a) w w2 := by
      have := (Mut.of_below (S := fun i => i = a ∨ w.heap.size ≤ i) HB.out).trans hm2
      exact this.mono (fun i hi hs => by rcases hs with h | h; exact h; omega)
    have d1 : w2.cell? ⟨a, 1, none⟩ = some (.map (some tp)) := hb2.cell 1
    have d2 : w2.cell? ⟨a, 2, none⟩ = some (.int .i64 M.pl) := hb2.cell 2
    have d3 : w2.cell? ⟨a, 3, none⟩ = some (.int .i64 M.ks) := hb2.cell 3
    have d4 : w2.cell? ⟨a, 4, none⟩ = some (.int .i64 M.rs) := hb2.cell 4
    have d5 : w2.cell? ⟨a, 5, none⟩ = some (.int .i64 M.ss) := hb2.cell 5
    have d7 : w2.cell? ⟨a, 7, none⟩ = some (.int .i64 M.many) := hb2.cell 7
    have f1 := hb2.free 1
    have f7 := hb2.free 7
    have hS : ∀ i, only a i → ∀ es cl, w.heap[i]? ≠ some (.map es cl) := fun i hi es cl e => by
      obtain rfl := hi
      have := Hb.out
      rw [Blk] at this
      rw [this] at e
      cases e
    have Hnow := Lib.hid (Ht.out.cellsMut hmw hS)
    have Hopn := Lib.hid (H1.out.cellsMut hmw hS)
    have HT2 := Lib.hid hT2
    have HMW := Lib.hid hmw
    have Hb2 := Lib.hid hb2
    clear hm2 hn2 hb2 hT2 hmw hS
    by_cases hx0 : x.1 = 0
    · have hxb : (x.1 != 0) = false := by simp [hx0]
      obtain ⟨q1, q2, q3, q4⟩ := hx hx0
      have Hq := Lib.hid q1
      clear q1
      go_wp2_with fail
      refine (fits_any x.2 Hq.out w.heap.size w.heap.size w2 (HT2.out hx0) M.pl M.ks M.rs M.ss q2 q3 q4).mono ?_
      rintro e w3 ⟨rfl, hB3⟩
      have hb3 := Hb2.out.below hB3
      have g7 : w3.cell? ⟨a, 7, none⟩ = some (.int .i64 M.many) := hb3.cell 7
      have g1 : w3.cell? ⟨a, 1, none⟩ = some (.map (some tp)) := hb3.cell 1
      have k1 := hb3.free 1
      have k7 := hb3.free 7
      have HB3 := Lib.hid hB3
      have Hb3 := Lib.hid hb3
      clear hB3 hb3
      go_wp2
      go_ret
      have e : mStep M x = (0, { M with opn := some x.2, many := M.many + 1 }) := by simp [mStep, h8, hx0]
      rw [e]
      have r1 := Hb3.out.set 1 (.map (some w.heap.size))
      have r2 := r1.set 7 (.int .i64 (M.many + 1))
      refine ⟨rfl, ⟨np, some w.heap.size, n', by simpa [mdCells] using r2, ?_, hw, ⟨w.heap.size, rfl, ?_, Hq.out⟩, hn'⟩, ?_⟩
      · exact ((Hnow.out.below HB3.out).setCell Hb3.out _ _).setCell r1 _ _
      · exact ((((HT2.out hx0).lower (Nat.zero_le _)).below HB3.out).setCell Hb3.out _ _).setCell r1 _ _
      · exact ((HMW.out.trans (Mut.of_below HB3.out)).cellOf _ _).cellOf _ _
    · have hxb : (x.1 != 0) = true := bne_iff_ne.2 hx0
      go_wp2
      go_ret
      have e : mStep M x = (x.1, M) := by rw [mStep, if_neg (by omega), if_pos hx0]
      rw [e]
      exact ⟨rfl, ⟨np, some tp, n', Hb2.out, Hnow.out, hw, by rw [hO]; exact ⟨tp, rfl, Hopn.out, h2⟩, hn'⟩, HMW.out⟩
end Go.Proofs.YticnmogeknlmeaaGreatDoor.B
namespace Go.Proofs.YticnmogeknlmeaaGreatDoor.B
open Go.RowKit Go.Maps Go.Proofs.YticnmogeknlmeaaGreatDoorW.PrintWords
set_option maxRecDepth 100000
set_option maxHeartbeats 1600000
theorem do1_any (r : Rc) (x : Int × Tree) (a base tp rb : Nat) (wa : World) (hab : a < base) (_hbw : base ≤ wa.heap.size) (hr : Blk wa rb r.cells 100) (hd : Calls Tryz.prog 141 #[.map (some tp), .agg r.cells] wa (DoPost base tp wa x)) : Calls Tryz.prog 140 #[.map (some tp), .pointer (some ⟨rb, 0, none⟩)] wa (CPost a base tp wa x) := by
  have c0 : wa.cell? ⟨rb, 0, none⟩ = some (.int .i64 r.k) := hr.cell 0
  have c1 : wa.cell? ⟨rb, 1, none⟩ = some (.int .i64 r.s) := hr.cell 1
  have c2 : wa.cell? ⟨rb, 2, none⟩ = some (.int .i64 r.p) := hr.cell 2
  have c3 : wa.cell? ⟨rb, 3, none⟩ = some (.int .i64 r.a) := hr.cell 3
  have c4 : wa.cell? ⟨rb, 4, none⟩ = some (.int .i64 r.t) := hr.cell 4
  have c5 : wa.cell? ⟨rb, 5, none⟩ = some (.int .i64 r.n) := hr.cell 5
  have Hd := Lib.hid hd
  clear hd
  go_enter Tryz.func140, Tryz.ntmps140
  go_wp2_with fail
  refine Hd.out.mono ?_
  rintro e w1 ⟨rfl, hB, ht⟩
  have HB := Lib.hid hB
  have HT := Lib.hid ht
  clear hB ht
  go_wp2
  go_ret
  refine ⟨rfl, ⟨HB.out.os, HB.out.tape, HB.out.output, HB.out.size, fun i _ hs => HB.out.block i (by simp at hs; omega)⟩, HT.out, fun np oo M n hbk hn => ⟨n, (HB.out.block a hab).trans hbk, hn⟩⟩
theorem call46 (rb : Nat) (W : World) (v : Value) : (callFunc 140 (#[v] ++ #[.pointer (some ⟨rb, 0, none⟩)])).run Tryz.prog W = .ok (.enter 140 (#[v] ++ #[.pointer (some ⟨rb, 0, none⟩)])) W := by kernel_rfl
theorem do_m4 (M : Md) (a : Nat) (w : World) (h : MdAt w a M) (T : Tree) (hO : M.opn = some T) (hm : 0 ≤ M.many) (r : Rc) (hk : r.k = 4) (hs : I64 r.s) (hW : r.may = true → WfT (doT T r).2) (hx : r.may = true → (doT T r).1 = 0 → (total (doT T r).2 : Int) ≤ M.pl ∧ (total (doT T r).2 : Int) ≤ M.ks ∧ total (doT T r).2 < 100000) : Calls Tryz.prog 132 #[.pointer (some ⟨a, 0, none⟩), .agg r.cells] w fun e w' => e = .returned (.int .i64 (if r.may then mStep M (doT T r) else (1, M)).1) ∧ MdAt w' a (if r.may then mStep M (doT T r) else (1, M)).2 ∧ Mut (only a) w w' := by
  have hmd := h
  obtain ⟨np, oo, n, hb, ht, hw, ho, hn⟩ := h
  have hal := hb.lt
  have hq1 := eql92
  rw [hO] at ho
  obtain ⟨tp, rfl, h1, h2⟩ := ho
  have hcell : r.cells = #[.int .i64 4, .int .i64 r.s, .int .i64 r.p, .int .i64 r.a, .int .i64 r.t, .int .i64 r.n] := by rw [← hk]; rfl
  have hck := check_any r
  have hB0 : Below w.heap.size w (w.alloc (.cells r.cells 100)) := (Below.refl _ _).alloc (Nat.le_refl _) _
  have c1a : (w.alloc (.cells #[.int .i64 4, .int .i64 r.s, .int .i64 r.p, .int .i64 r.a, .int .i64 r.t, .int .i64 r.n] 100)).cell? ⟨a, 1, none⟩ = some (.map (some tp)) := (hb.below ((Below.refl _ _).alloc (Nat.le_refl _) _)).cell 1
  have Hmd := Lib.hid hmd
  have HB0 := Lib.hid hB0
  have hr0 := Blk.new w r.cells 100
  have Hr0 := Lib.hid hr0
  have Hcell := Lib.hid hcell
  clear hmd hb ht h1 hB0 hr0
  rw [hcell] at hck ⊢
  clear hcell
  go_enter Tryz.func132, Tryz.ntmps132
  go_wp2_with fail
  refine (hck _).mono ?_
  rintro e w1 ⟨rfl, hB⟩
  rw [← Hcell.out] at hB
  have hrk := Hr0.out.below hB
  have d0 : w1.cell? ⟨w.heap.size, 0, none⟩ = some (.int .i64 4) := by have := hrk.cell 0; rw [Hcell.out] at this; exact this
  have HB1 := Lib.hid (HB0.out.trans (hB.mono (by simp)))
  have Hrk := Lib.hid hrk
  clear hB hrk
  cases hmay : r.may
  · go_wp2
    all_goals go_ret
    all_goals exact ⟨rfl, Hmd.out.below HB1.out, Mut.of_below HB1.out⟩
  · have HW := Lib.hid (hW hmay)
    have HX := Lib.hid (hx hmay)
    go_wp2_with fail
    refine (step_m M a w1 (Hmd.out.below HB1.out) T hO hm 140 _ (doT T r) (fun h0 => ⟨HW.out, HX.out h0⟩) (call46 _) (fun wa hT hBa => ?_)).mono ?_
    · have hsz := HB1.out.size
      refine do1_any r _ a _ _ w.heap.size wa (Nat.lt_of_lt_of_le hal hsz) hBa.size (Hrk.out.below hBa) ?_
      exact do_4 T _ _ wa hT hBa.size r hk hs HW.out
    · rintro e w2 ⟨rfl, hM2, hm2⟩
      have HM2 := Lib.hid hM2
      have Hm2 := Lib.hid hm2
      clear hM2 hm2
      go_wp2
      go_ret
      exact ⟨rfl, HM2.out, (Mut.of_below HB1.out).trans Hm2.out⟩
end Go.Proofs.YticnmogeknlmeaaGreatDoor.B
namespace Go.Proofs.YticnmogeknlmeaaGreatDoor.B
open Go.RowKit Go.Maps Go.Proofs.YticnmogeknlmeaaGreatDoorW.PrintWords
set_option maxRecDepth 100000
set_option maxHeartbeats 1600000
def upP (pg : Int → Option ByteArray) (p : Int) (v : Option ByteArray) : Int → Option ByteArray := fun i => if i = p then v else pg i
/-- What putting a page does to a tree. -/
def putT (T : Tree) (id p : Int) (s : ByteArray) : Int × Tree := match T id with
  | none => (81, T)
  | some sp => if 0 ≤ p ∧ p < sp.q then (0, upT T id (some { sp with pages := upP sp.pages p (some s) })) else (81, T)
theorem wrap64_i64 (x : Int) : I64 (wrap64 x) := by
  have h : (Lit.int .i64 (wrap64 x)).wf = true := wrap64_wf x
  have : (decide (IntKind.i64.min ≤ wrap64 x) && decide (wrap64 x ≤ IntKind.i64.max)) = true := h
  simp [IntKind.min, IntKind.max, IntKind.signed, IntKind.bits] at this
  exact this
theorem put1_any (T : Tree) (hT : WfT T) (M0 : Md) (np0 : Nat) (oo0 : Option Nat) (n0 : Int) (_hn0 : I64 n0) (a base tp pb ib mb sb : Nat) (id p : Int) (s : ByteArray) (hid : I64 id) (hp : I64 p) (wa : World) (hab : a < base) (_hbw : base ≤ wa.heap.size) (ha : Blk wa a (mdCells np0 oo0 M0 n0) 118) (ht : TreeAt base wa tp T) (sp : Sp) (hsp : T id = some sp)
    (h1 : Blk wa pb #[.int .i64 p] 3) (h2 : Blk wa ib #[.int .i64 id] 3) (h3 : Blk wa mb #[.pointer (some ⟨a, 0, none⟩)] 25) (h4 : Blk wa sb #[.string s] 9) (hW : WfT (putT T id p s).2) :
    Calls Tryz.prog 143 #[.map (some tp), .pointer (some ⟨pb, 0, none⟩), .pointer (some ⟨ib, 0, none⟩), .pointer (some ⟨mb, 0, none⟩), .pointer (some ⟨sb, 0, none⟩)] wa (CPost a base tp wa (putT T id p s)) := by
  have c1 : wa.cell? ⟨pb, 0, none⟩ = some (.int .i64 p) := h1.cell 0
  have c2 : wa.cell? ⟨ib, 0, none⟩ = some (.int .i64 id) := h2.cell 0
  have c3 : wa.cell? ⟨mb, 0, none⟩ = some (.pointer (some ⟨a, 0, none⟩)) := h3.cell 0
  have c4 : wa.cell? ⟨sb, 0, none⟩ = some (.string s) := h4.cell 0
  have c8 : wa.cell? ⟨a, 8, none⟩ = some (.int .i64 n0) := ha.cell 8
  have f8 := ha.free 8
  have hne : ∀ {g : Nat} {v : Value} {t : TypeId}, Blk wa g #[v] t → g ≠ a := fun {g v t} h e => by
    subst e
    rw [Blk] at h ha
    rw [h] at ha
    have := congrArg (fun o => match o with | some (Obj.cells cs _ _) => cs.size | _ => 0) ha
    simp [mdCells] at this
  have e1 := hne h1
  have e2 := hne h2
  have e3 := hne h3
  have e4 := hne h4
  have hfd := field109_2
  have hfd0 := field109_0
  have ht0 := ht.1
  obtain ⟨_, F, hM, hP⟩ := ht
  rcases phys_look hM hP hid with ⟨hn, hl⟩ | ⟨sp', rp, hsm, hF, hrb, hrt, hpg, hl⟩
  · rw [hn] at hsp; cases hsp
  rw [hsp] at hsm
  obtain rfl := Option.some.inj hsm
  have hl1 := hl false
  simp only [if_false, Bool.false_eq_true] at hl1
  obtain ⟨wb, hwb⟩ : ∃ wb, wb = wa.setCell ⟨a, 8, none⟩ (.int .i64 (wrap64 (n0 + 1))) := ⟨_, rfl⟩
  have hab2 : rp ≠ a := by
    obtain ⟨G, hG, _⟩ := hpg
    exact hG.ne_blk ha
  have hta : tp ≠ a := hM.ne_blk ha
  have hM2 : MapAt codS wb tp 15 F := by rw [hwb]; exact hM.far (by simpa using hta) _
  have hl2 := (hM2.look und92 (zero109 wb) hid).2
  rw [hF] at hl2
  simp only [Option.getD_some, codS] at hl2
  have hl3 := (MapAt.look (w := wb.drew) (hM2.same rfl) und92 (zero109 _) hid).2
  rw [hF] at hl3
  simp only [Option.getD_some, codS] at hl3
  obtain ⟨G, hG1, hG2, hG3⟩ := hpg
  have hw := (hT id sp hsp)
  have HG := Lib.hid (show MapAt codL wb rp 1024 G by rw [hwb]; exact hG1.far (by simpa using hab2) _)
  have hrpl := hG1.lt
  have b1 : wb.cell? ⟨pb, 0, none⟩ = some (.int .i64 p) := by rw [hwb]; exact (h1.far (by simpa using e1) _).cell 0
  have b2 : wb.cell? ⟨ib, 0, none⟩ = some (.int .i64 id) := by rw [hwb]; exact (h2.far (by simpa using e2) _).cell 0
  have b3 : wb.cell? ⟨mb, 0, none⟩ = some (.pointer (some ⟨a, 0, none⟩)) := by rw [hwb]; exact (h3.far (by simpa using e3) _).cell 0
  have b4 : wb.cell? ⟨sb, 0, none⟩ = some (.string s) := by rw [hwb]; exact (h4.far (by simpa using e4) _).cell 0
  have hab8 : Blk wb a (mdCells np0 oo0 M0 (wrap64 (n0 + 1))) 118 := by
    have := ha.set 8 (.int .i64 (wrap64 (n0 + 1)))
    rw [hwb]
    simpa [mdCells] using this
  have b8 : wb.cell? ⟨a, 8, none⟩ = some (.int .i64 (wrap64 (n0 + 1))) := hab8.cell 8
  have Hab8 := Lib.hid hab8
  have HGd := Lib.hid (show MapAt codL wb.drew rp 1024 G from HG.out.same rfl)
  have Hwb := Lib.hid hwb
  clear hwb hab8
  have HM2 := Lib.hid hM2
  have HP := Lib.hid hP
  have HF := Lib.hid hF
  have HG2 := Lib.hid hG2
  have HG3 := Lib.hid hG3
  have Ha := Lib.hid ha
  clear hl hM hM2 hP hF hG1 hG2 hG3 hT ha hne h1 h2 h3 h4
  have hx : putT T id p s = if 0 ≤ p ∧ p < sp.q then (0, upT T id (some { sp with pages := upP sp.pages p (some s) })) else (81, T) := by simp [putT, hsp]
  by_cases hpos : 0 ≤ p
  · by_cases hlt : p < sp.q
    · rw [hx, if_pos ⟨hpos, hlt⟩] at hW ⊢
      have HW := Lib.hid hW
      clear hW hx
      go_enter Tryz.func143, Tryz.ntmps143
      go_wp2
      rw [← Hwb.out]
      clear c1 c2 c3 c4 c8 f8 hl1
      go_still_tail 11, (by kernel_rfl)
      go_wp2_with (first | (at_mapUpdate; refine update_map rfl _ _ _ 205 rfl 203 und107 HGd.out (by omega) p hp (s, wrap64 (n0 + 1)) rfl rfl rfl ?_; intro w5 hO5 hM5 hs5))
      go_ret
      have hm1 : Mut (only a) wa wb.drew := by rw [Hwb.out]; exact ((Mut.refl _ _).cellOf 8 _).drew 1
      have hsz : wb.drew.heap.size = wa.heap.size := by rw [Hwb.out]; simp [World.setCell, World.drew]
      have ht5 : MapAt codS w5 tp 15 F := (HM2.out.same rfl : MapAt codS wb.drew tp 15 F).kept hM5 (fun e => hrt e.symm)
      have hP2 : PhysIn base wb.drew tp T F := HP.out.mut hm1 (fun k sp' rp' _ hF' hs => by
        obtain ⟨rp2, q1, _, _, G', q2, _⟩ := HP.out.2.1 k sp' ‹_›
        rw [hF'] at q1
        simp at q1
        subst q1
        exact q2.ne_blk Ha.out hs)
      have hM' : Mut (fun i => i = a ∨ base ≤ i) wa w5 := (hm1.mono (fun i _ h => Or.inl h)).trans (hM5.mono (fun i _ h => Or.inr (by rw [h]; exact hrb)))
      refine ⟨rfl, hM', fun _ => ?_, fun np oo M n hb hn => ⟨wrap64 (n0 + 1), ?_, wrap64_i64 _⟩⟩
      · refine TreeAt.pages ht5 ht0 hP2 hsp HF.out ⟨up G p (some (s, wrap64 (n0 + 1))), ?_, fun i => ?_, fun i s' n' h => ?_⟩ (fun i hi hne => hM5.block i hi hne) HW.out
        · refine hO5.tight (lo := 0) (q := 1024) (fun k _ hk => ?_)
          by_cases e : k = p
          · subst e; constructor <;> omega
          · rw [up_other _ _ e] at hk
            have h6 := HG2.out k
            cases hg : G k with
            | none => exact absurd hg hk
            | some u =>
              rw [hg] at h6
              have := hw.2.2.2.2 k _ h6.symm
              constructor <;> omega
        · by_cases e : i = p
          · subst e; simp [up, upP]
          · rw [up_other _ _ e, HG2.out]; simp [upP, e]
        · by_cases e : i = p
          · subst e; rw [up_same] at h; simp at h; rw [← h.2]; exact wrap64_i64 _
          · rw [up_other _ _ e] at h; exact HG3.out _ _ _ h
      · have e : mdCells np oo M n = mdCells np0 oo0 M0 n0 := by
          have h1 := Ha.out
          rw [Blk] at h1 hb
          rw [h1] at hb
          simp at hb
          exact hb.symm
        have e2 : mdCells np oo M (wrap64 (n0 + 1)) = mdCells np0 oo0 M0 (wrap64 (n0 + 1)) := by
          have := congrArg (fun c => c.setIfInBounds 8 (Value.int .i64 (wrap64 (n0 + 1)))) e
          simpa [mdCells] using this
        rw [e2]
        exact (show Blk wb.drew a _ 118 from Hab8.out).kept hM5 (fun h => hab2 h.symm)
    · have hge : sp.q ≤ p := by omega
      rw [hx, if_neg (by omega)]
      clear hx
      go_enter Tryz.func143, Tryz.ntmps143
      go_wp2
      go_ret
      exact ⟨rfl, Mut.refl _ _, fun h => (by simp at h), fun np oo M n hb hn => ⟨n, hb, hn⟩⟩
  · have hneg : p < 0 := by omega
    rw [hx, if_neg (by omega)]
    clear hx
    go_enter Tryz.func143, Tryz.ntmps143
    go_wp2
    go_ret
    exact ⟨rfl, Mut.refl _ _, fun h => (by simp at h), fun np oo M n hb hn => ⟨n, hb, hn⟩⟩
end Go.Proofs.YticnmogeknlmeaaGreatDoor.B
namespace Go.Proofs.YticnmogeknlmeaaGreatDoor.B
open Go.RowKit Go.Maps Go.Proofs.YticnmogeknlmeaaGreatDoorW.PrintWords
set_option maxRecDepth 100000
set_option maxHeartbeats 1600000
theorem call56 (b1 b2 b3 b4 : Nat) (W : World) (v : Value) : (callFunc 143 (#[v] ++ #[.pointer (some ⟨b1, 0, none⟩), .pointer (some ⟨b2, 0, none⟩), .pointer (some ⟨b3, 0, none⟩), .pointer (some ⟨b4, 0, none⟩)])).run Tryz.prog W = .ok (.enter 143 (#[v] ++ #[.pointer (some ⟨b1, 0, none⟩), .pointer (some ⟨b2, 0, none⟩), .pointer (some ⟨b3, 0, none⟩), .pointer (some ⟨b4, 0, none⟩)])) W := by kernel_rfl
def mPut (M : Md) (T : Tree) (id p : Int) (s : ByteArray) : Int × Md :=
  if M.size < s.size then (173, M) else if mayE T id ≠ 0 then (mayE T id, M) else mStep M (putT T id p s)
theorem put_m (M : Md) (a : Nat) (w : World) (h : MdAt w a M) (T : Tree) (hO : M.opn = some T) (hm : 0 ≤ M.many) (id p : Int) (hid : I64 id) (hp : I64 p) (s : ByteArray) (_hs : s.size < 4294967296) (hW : WfT (putT T id p s).2) (hx : (putT T id p s).1 = 0 → (total (putT T id p s).2 : Int) ≤ M.pl ∧ (total (putT T id p s).2 : Int) ≤ M.ks ∧ total (putT T id p s).2 < 100000) :
    Calls Tryz.prog 134 #[.pointer (some ⟨a, 0, none⟩), .int .i64 id, .int .i64 p, .string s] w fun e w' => e = .returned (.int .i64 (mPut M T id p s).1) ∧ MdAt w' a (mPut M T id p s).2 ∧ Mut (only a) w w' := by
  have hmd := h
  obtain ⟨np, oo, n, hb, ht, hw, ho, hn⟩ := h
  have hal := hb.lt
  have hq1 := eql92
  rw [hO] at ho
  obtain ⟨tp, rfl, h1, h2⟩ := ho
  obtain ⟨w1, hw1⟩ : ∃ w1, w1 = (((w.alloc (.cells #[.pointer (some ⟨a, 0, none⟩)] 25)).alloc (.cells #[.int .i64 id] 3)).alloc (.cells #[.int .i64 p] 3)).alloc (.cells #[.string s] 9) := ⟨_, rfl⟩
  have hB1 : Below w.heap.size w w1 := by rw [hw1]; exact ((((Below.refl _ _).alloc (Nat.le_refl _) _).alloc (by simp) _).alloc (by simp; omega) _).alloc (by simp; omega) _
  have hb1 := hb.below hB1
  have c1 : w1.cell? ⟨a, 1, none⟩ = some (.map (some tp)) := hb1.cell 1
  have c6 : w1.cell? ⟨a, 6, none⟩ = some (.int .i64 M.size) := hb1.cell 6
  have k1 : Blk w1 w.heap.size #[.pointer (some ⟨a, 0, none⟩)] 25 := by
    rw [hw1]
    exact (((Blk.new w _ 25).below ((Below.refl _ _).alloc (Nat.le_refl _) _)).below ((Below.refl _ _).alloc (Nat.le_refl _) _)).below ((Below.refl _ _).alloc (Nat.le_refl _) _)
  have k2 : Blk w1 (w.heap.size + 1) #[.int .i64 id] 3 := by
    rw [hw1]
    have := Blk.new (w.alloc (.cells #[.pointer (some ⟨a, 0, none⟩)] 25)) #[.int .i64 id] 3
    rw [show (w.alloc (.cells #[.pointer (some ⟨a, 0, none⟩)] 25)).heap.size = w.heap.size + 1 by simp] at this
    exact ((this).below ((Below.refl _ _).alloc (Nat.le_refl _) _)).below ((Below.refl _ _).alloc (Nat.le_refl _) _)
  have k3 : Blk w1 (w.heap.size + 2) #[.int .i64 p] 3 := by
    rw [hw1]
    have := Blk.new ((w.alloc (.cells #[.pointer (some ⟨a, 0, none⟩)] 25)).alloc (.cells #[.int .i64 id] 3)) #[.int .i64 p] 3
    rw [show ((w.alloc (.cells #[.pointer (some ⟨a, 0, none⟩)] 25)).alloc (.cells #[.int .i64 id] 3)).heap.size = w.heap.size + 2 by simp] at this
    exact (this).below ((Below.refl _ _).alloc (Nat.le_refl _) _)
  have k4 : Blk w1 (w.heap.size + 3) #[.string s] 9 := by
    rw [hw1]
    have := Blk.new (((w.alloc (.cells #[.pointer (some ⟨a, 0, none⟩)] 25)).alloc (.cells #[.int .i64 id] 3)).alloc (.cells #[.int .i64 p] 3)) #[.string s] 9
    rw [show (((w.alloc (.cells #[.pointer (some ⟨a, 0, none⟩)] 25)).alloc (.cells #[.int .i64 id] 3)).alloc (.cells #[.int .i64 p] 3)).heap.size = w.heap.size + 3 by simp] at this
    exact this
  have d1 : w1.cell? ⟨w.heap.size, 0, none⟩ = some (.pointer (some ⟨a, 0, none⟩)) := k1.cell 0
  have d2 : w1.cell? ⟨w.heap.size + 1, 0, none⟩ = some (.int .i64 id) := k2.cell 0
  have d3 : w1.cell? ⟨w.heap.size + 2, 0, none⟩ = some (.int .i64 p) := k3.cell 0
  have d4 : w1.cell? ⟨w.heap.size + 3, 0, none⟩ = some (.string s) := k4.cell 0
  have Hmd := Lib.hid (hmd.below hB1)
  have H1 := Lib.hid (h1.below hB1)
  have HB1 := Lib.hid hB1
  have K1 := Lib.hid k1
  have K2 := Lib.hid k2
  have K3 := Lib.hid k3
  have K4 := Lib.hid k4
  have Hw1 := Lib.hid hw1
  clear hmd hb ht h1 hB1 hb1 k1 k2 k3 k4 hw1
  go_enter Tryz.func134, Tryz.ntmps134
  go_upto_region 1 with fail
  rw [← Hw1.out]
  clear h2
  by_cases hsz : M.size < s.size
  · go_wp2
    go_quiet (fail)
    go_wp2
    go_ret
    have e : mPut M T id p s = (173, M) := by simp [mPut, hsz]
    rw [e]
    exact ⟨rfl, Hmd.out.below (below_drewN (Below.refl _ _) _), Mut.of_below (below_drewN HB1.out _)⟩
  · have hszd : decide (M.size < (s.size : Int)) = false := decide_eq_false hsz
    go_wp2
    go_quiet (fail)
    go_wp2
    obtain ⟨w2, hw2⟩ : ∃ w2, w2 = w1.drewN nq := ⟨_, rfl⟩
    rw [← hw2]
    have hB2 : Below w1.heap.size w1 w2 := by rw [hw2]; exact below_drewN (Below.refl _ _) _
    have q1 : w2.cell? ⟨w.heap.size, 0, none⟩ = some (.pointer (some ⟨a, 0, none⟩)) := (K1.out.below hB2).cell 0
    have q2 : w2.cell? ⟨w.heap.size + 1, 0, none⟩ = some (.int .i64 id) := (K2.out.below hB2).cell 0
    have q6 : w2.cell? ⟨a, 1, none⟩ = some (.map (some tp)) := by rw [hw2]; exact c1
    have K1 := Lib.hid (K1.out.below hB2)
    have K2 := Lib.hid (K2.out.below hB2)
    have K3 := Lib.hid (K3.out.below hB2)
    have K4 := Lib.hid (K4.out.below hB2)
    have H1 := Lib.hid (H1.out.below hB2)
    have Hmd := Lib.hid (Hmd.out.below hB2)
    have HB2 := Lib.hid (HB1.out.trans (hB2.mono HB1.out.size))
    have Hw2 := Lib.hid hw2
    clear hw2 hB2 c1 c6 d1 d2 d3 d4
    go_still_tail 5, (by kernel_rfl)
    go_wp2_with fail
    refine (may_any T 0 tp _ (H1.out.below (below_drewN (Below.refl _ _) 1)) id hid).mono ?_
    rintro e w3 ⟨rfl, hB3⟩
    have hB23 : Below w2.heap.size w2 w3 := (below_drewN (Below.refl w2.heap.size w2) 1).trans hB3
    have HB3 := Lib.hid (HB2.out.trans (hB23.mono HB2.out.size))
    have K1 := Lib.hid (K1.out.below hB23)
    have K2 := Lib.hid (K2.out.below hB23)
    have K3 := Lib.hid (K3.out.below hB23)
    have K4 := Lib.hid (K4.out.below hB23)
    have Hmd := Lib.hid (Hmd.out.below hB23)
    clear hB23 hB3 q2 q6
    have r1 : w3.cell? ⟨w.heap.size, 0, none⟩ = some (.pointer (some ⟨a, 0, none⟩)) := K1.out.cell 0
    by_cases hmay : mayE T id = 0
    · have hmb : (mayE T id != 0) = false := by simp [hmay]
      obtain ⟨sp, hsp⟩ : ∃ sp, T id = some sp := by
        cases hT : T id with
        | none => simp [mayE, hT] at hmay
        | some sp => exact ⟨sp, rfl⟩
      have HW := Lib.hid hW
      have HX := Lib.hid hx
      have Hsp := Lib.hid hsp
      have Hmay := Lib.hid hmay
      clear hW hx hsp hmay
      go_wp2_with fail
      refine (step_m M a w3 Hmd.out T hO hm 143 _ (putT T id p s) (fun h0 => ⟨HW.out, HX.out h0⟩) (call56 _ _ _ _) (fun wa hT hBa => ?_)).mono ?_
      · have hsz := HB3.out.size
        obtain ⟨np0, oo0, n0, hb0, _, _, ho0, hn0⟩ := Hmd.out.below hBa
        rw [hO] at ho0
        obtain ⟨_, _, _, hwT⟩ := ho0
        exact put1_any T hwT M np0 oo0 n0 hn0 a w3.heap.size w3.heap.size _ _ _ _ id p s hid hp wa (by omega) hBa.size hb0 hT sp Hsp.out (K3.out.below hBa) (K2.out.below hBa) (K1.out.below hBa) (K4.out.below hBa) HW.out
      · rintro e w4 ⟨rfl, hM2, hm2⟩
        have HM2 := Lib.hid hM2
        have Hm2 := Lib.hid hm2
        clear hM2 hm2
        go_wp2
        go_ret
        have e : mPut M T id p s = mStep M (putT T id p s) := by rw [mPut, if_neg (by omega), if_neg (by simp [Hmay.out])]
        rw [e]
        exact ⟨rfl, HM2.out, (Mut.of_below HB3.out).trans Hm2.out⟩
    · have hmb : (mayE T id != 0) = true := bne_iff_ne.2 hmay
      go_wp2
      go_ret
      have e : mPut M T id p s = (mayE T id, M) := by rw [mPut, if_neg (by omega), if_pos hmay]
      rw [e]
      exact ⟨rfl, Hmd.out, Mut.of_below HB3.out⟩
end Go.Proofs.YticnmogeknlmeaaGreatDoor.B
namespace Go.Proofs.YticnmogeknlmeaaGreatDoor.B
open Go.RowKit Go.Maps Go.Proofs.YticnmogeknlmeaaGreatDoorW.PrintWords
set_option maxRecDepth 100000
set_option maxHeartbeats 1600000
theorem do_5 (T : Tree) (base tp : Nat) (w : World) (h : TreeAt base w tp T) (hb : base ≤ w.heap.size) (r : Rc) (hk : r.k = 5) (hs : I64 r.s) (hW : WfT (doT T r).2) : Calls Tryz.prog 141 #[.map (some tp), .agg r.cells] w (DoPost base tp w (doT T r)) := by
  have hB0 : Below w.heap.size w (w.alloc (.cells #[.int .i64 5, .int .i64 r.s, .int .i64 r.p, .int .i64 r.a, .int .i64 r.t, .int .i64 r.n] 100)) := (Below.refl _ _).alloc (Nat.le_refl _) _
  have htp := h.lt
  have hcell : r.cells = #[.int .i64 5, .int .i64 r.s, .int .i64 r.p, .int .i64 r.a, .int .i64 r.t, .int .i64 r.n] := by rw [← hk]; rfl
  have hno := do_none T base tp w h hb r (by rw [hk]; decide) hs
  obtain ⟨h0, F, hM, hP⟩ := h.below hB0
  rcases phys_look hM hP hs with ⟨hn, hl⟩ | ⟨sp, rp, hsm, hF, hrb, hrt, hpg, hl⟩
  · exact hno hn
  clear hno
  rw [hcell]
  have hx : doT T r = (0, upT T r.s none) := by simp [doT, hsm, hk]
  rw [hx] at hW ⊢
  have hl1 := hl true
  simp only [if_true] at hl1
  obtain ⟨wa, hwa⟩ : ∃ wa, wa = (w.alloc (.cells #[.int .i64 5, .int .i64 r.s, .int .i64 r.p, .int .i64 r.a, .int .i64 r.t, .int .i64 r.n] 100)) := ⟨_, rfl⟩
  have hsa : wa.heap.size = w.heap.size + 1 := by rw [hwa]; simp
  rw [← hwa] at hM hP hpg hB0
  obtain ⟨wb, hwb⟩ : ∃ wb, wb = wa.alloc (.cells #[.int .i64 sp.q, .bool sp.sl, .map (some rp)] 207) := ⟨_, rfl⟩
  have hBb : Below wa.heap.size wa wb := by rw [hwb]; exact (Below.refl _ _).alloc (Nat.le_refl _) _
  have hsb : wb.heap.size = w.heap.size + 2 := by rw [hwb]; simp [hsa]
  have HB1 := Lib.hid (hB0.trans (hBb.mono (by omega)))
  have HM := Lib.hid (hM.below hBb)
  have HP := Lib.hid hP
  have HBb := Lib.hid hBb
  rw [hwb, hwa] at HM
  clear hl hP hM hpg hF hBb hB0
  obtain ⟨w5, hrun, hO5, hg5, hs5⟩ := HM.out.del und92 hs 0
  have HO5 := Lib.hid hO5
  have HM5 := Lib.hid (Mut.of_grown hg5 rfl)
  clear hO5 hg5
  go_enter Tryz.func141, Tryz.ntmps141
  go_wp2
  go_ret
  have hM5 := HM5.out
  have hO5 := HO5.out
  rw [← hwa, ← hwb] at hM5 hs5
  refine ⟨rfl, (HB1.out.mono hb).trans (hM5.below (by omega) (fun i hi e => by omega)), fun _ => ?_⟩
  refine TreeAt.delete hO5 h0 HP.out ?_ hW
  intro i hi h1
  rw [hM5.block i (by omega) (fun e => h1 e.symm)]
  exact HBb.out.block i hi
theorem do_2 (T : Tree) (base tp : Nat) (w : World) (h : TreeAt base w tp T) (hb : base ≤ w.heap.size) (r : Rc) (hk : r.k = 2) (hs : I64 r.s) (hp : I64 r.p) (hW : WfT (doT T r).2) : Calls Tryz.prog 141 #[.map (some tp), .agg r.cells] w (DoPost base tp w (doT T r)) := by
  have hB0 : Below w.heap.size w (w.alloc (.cells #[.int .i64 2, .int .i64 r.s, .int .i64 r.p, .int .i64 r.a, .int .i64 r.t, .int .i64 r.n] 100)) := (Below.refl _ _).alloc (Nat.le_refl _) _
  have htp := h.lt
  have hcell : r.cells = #[.int .i64 2, .int .i64 r.s, .int .i64 r.p, .int .i64 r.a, .int .i64 r.t, .int .i64 r.n] := by rw [← hk]; rfl
  have hno := do_none T base tp w h hb r (by rw [hk]; decide) hs
  obtain ⟨h0, F, hM, hP⟩ := h.below hB0
  rcases phys_look hM hP hs with ⟨hn, hl⟩ | ⟨sp, rp, hsm, hF, hrb, hrt, hpg, hl⟩
  · exact hno hn
  clear hno
  rw [hcell]
  have hl1 := hl true
  simp only [if_true] at hl1
  obtain ⟨wa, hwa⟩ : ∃ wa, wa = (w.alloc (.cells #[.int .i64 2, .int .i64 r.s, .int .i64 r.p, .int .i64 r.a, .int .i64 r.t, .int .i64 r.n] 100)) := ⟨_, rfl⟩
  have hsa : wa.heap.size = w.heap.size + 1 := by rw [hwa]; simp
  rw [← hwa] at hM hP hpg hB0
  obtain ⟨wb, hwb⟩ : ∃ wb, wb = wa.alloc (.cells #[.int .i64 sp.q, .bool sp.sl, .map (some rp)] 207) := ⟨_, rfl⟩
  have hBb : Below wa.heap.size wa wb := by rw [hwb]; exact (Below.refl _ _).alloc (Nat.le_refl _) _
  have hsb : wb.heap.size = w.heap.size + 2 := by rw [hwb]; simp [hsa]
  have HB1 := Lib.hid (hB0.trans (hBb.mono (by omega)))
  have HM := Lib.hid (hM.below hBb)
  have HP := Lib.hid hP
  obtain ⟨G, hG1, hG2, hG3⟩ := hpg
  have hG1b := hG1.below hBb
  have hl2 := (hG1b.look und107 (zero111 wb) hp).1
  have HG1 := Lib.hid hG1
  have HG2 := Lib.hid hG2
  have HG3 := Lib.hid hG3
  have HF := Lib.hid hF
  have HBb := Lib.hid hBb
  rw [hwb, hwa] at hl2
  clear hl hP hM hG1 hG2 hG3 hF hBb hB0 hG1b
  cases hg : G r.p with
  | none =>
    rw [hg] at hl2
    simp only [codL, Option.getD_none, Option.isSome_none] at hl2
    have hx : doT T r = (81, T) := by
      have := HG2.out r.p
      rw [hg] at this
      simp [doT, hsm, hk, ← this]
    rw [hx]
    go_enter Tryz.func141, Tryz.ntmps141
    go_wp2
    go_ret
    rw [← hwa, ← hwb]
    exact ⟨rfl, (HB1.out.mono hb).alloc (by omega) _, fun h => (by simp at h)⟩
  | some u =>
    rw [hg] at hl2
    simp only [codL, Option.getD_some, Option.isSome_some] at hl2
    have hx : doT T r = (0, upT T r.s (some { sp with pages := fun i => if i = r.p then none else sp.pages i })) := by
      have := HG2.out r.p
      rw [hg] at this
      simp [doT, hsm, hk, ← this]
    rw [hx] at hW ⊢
    obtain ⟨wc, hwc⟩ : ∃ wc, wc = wb.alloc (.cells #[.string u.1, .int .i64 u.2] 203) := ⟨_, rfl⟩
    have hBc : Below wb.heap.size wb wc := by rw [hwc]; exact (Below.refl _ _).alloc (Nat.le_refl _) _
    have hsc : wc.heap.size = w.heap.size + 3 := by rw [hwc]; simp [hsb]
    have HG := Lib.hid ((HG1.out.below HBb.out).below hBc)
    have HBc := Lib.hid hBc
    rw [hwc, hwb, hwa] at HG
    clear hBc
    obtain ⟨w5, hrun, hO5, hg5, hs5⟩ := HG.out.del und107 hp 0
    have HO5 := Lib.hid hO5
    have HM5 := Lib.hid (Mut.of_grown hg5 rfl)
    clear hO5 hg5
    go_enter Tryz.func141, Tryz.ntmps141
    go_wp2
    go_ret
    have hM5 := HM5.out
    have hO5 := HO5.out
    rw [← hwa, ← hwb, ← hwc] at hM5 hs5
    have hrl := HG1.out.lt
    have hbw : ∀ i, i < wa.heap.size → i ≠ rp → w5.heap[i]? = wa.heap[i]? := fun i hi hne => by
      rw [hM5.block i (by omega) (fun e => hne e.symm), HBc.out.block i (by omega)]
      exact HBb.out.block i hi
    refine ⟨rfl, ((HB1.out.mono hb).trans (HBc.out.mono (by omega))).trans (hM5.below (by omega) (fun i hi e => by omega)), fun _ => ?_⟩
    refine TreeAt.pages (w := wa) (pg := fun i => if i = r.p then none else sp.pages i) (((HM.out.below HBc.out)).kept hM5 (fun e => hrt e)) h0 HP.out hsm HF.out ⟨up G r.p none, hO5, fun i => ?_, fun i s' n' h => ?_⟩ hbw hW
    · by_cases e : i = r.p
      · subst e; simp [up]
      · rw [up_other _ _ e, HG2.out]; simp [e]
    · by_cases e : i = r.p
      · subst e; rw [up_same] at h; cases h
      · rw [up_other _ _ e] at h; exact HG3.out _ _ _ h
end Go.Proofs.YticnmogeknlmeaaGreatDoor.B
