/- Helper: the plain device in memory: pages put; walked. No condition. -/
import Derived.Test.YteilmbhnbmmcjaaMk
namespace Go.Proofs.Yteilmbhnbmmcjaa.B
open Go.RowKit Go.Maps Go.Proofs.YteilmbhnbmmcjaaW.PrintWords
set_option maxRecDepth 100000
set_option maxHeartbeats 1600000
def upP (pg : Int → Option ByteArray) (p : Int) (v : Option ByteArray) : Int → Option ByteArray := fun i => if i = p then v else pg i
/-- What putting a page does to a tree. -/
def putT (T : Tree) (id p : Int) (s : ByteArray) : Int × Tree := match T id with
  | none => (81, T)
  | some sp => if 0 ≤ p ∧ p < sp.q then (0, upT T id (some { sp with pages := upP sp.pages p (some s) })) else (81, T)
theorem wrap64_i64 (x : Int) : I64 (wrap64 x) := by
  have h : (Lit.int .i64 (wrap64 x)).wf = true := wrap64_wf x
  have : (decide (IntKind.i64.min ≤ wrap64 x) && decide (wrap64 x ≤ IntKind.i64.max)) = true := h
  simp [IntKind.min, IntKind.max, IntKind.signed, IntKind.bits] at this
  exact this
theorem put1_any (T : Tree) (hT : WfT T) (M0 : Md) (np0 : Nat) (oo0 : Option Nat) (n0 : Int) (_hn0 : I64 n0) (a base tp pb ib mb sb : Nat) (id p : Int) (s : ByteArray) (hid : I64 id) (hp : I64 p) (wa : World) (hab : a < base) (_hbw : base ≤ wa.heap.size) (ha : Blk wa a (mdCells np0 oo0 M0 n0) 94) (ht : TreeAt base wa tp T) (sp : Sp) (hsp : T id = some sp)
    (h1 : Blk wa pb #[.int .i64 p] 3) (h2 : Blk wa ib #[.int .i64 id] 3) (h3 : Blk wa mb #[.pointer (some ⟨a, 0, none⟩)] 23) (h4 : Blk wa sb #[.string s] 9) (hW : WfT (putT T id p s).2) :
    Calls Try.prog 56 #[.map (some tp), .pointer (some ⟨pb, 0, none⟩), .pointer (some ⟨ib, 0, none⟩), .pointer (some ⟨mb, 0, none⟩), .pointer (some ⟨sb, 0, none⟩)] wa (CPost a base tp wa (putT T id p s)) := by
  have c1 : wa.cell? ⟨pb, 0, none⟩ = some (.int .i64 p) := h1.cell 0
  have c2 : wa.cell? ⟨ib, 0, none⟩ = some (.int .i64 id) := h2.cell 0
  have c3 : wa.cell? ⟨mb, 0, none⟩ = some (.pointer (some ⟨a, 0, none⟩)) := h3.cell 0
  have c4 : wa.cell? ⟨sb, 0, none⟩ = some (.string s) := h4.cell 0
  have c8 : wa.cell? ⟨a, 8, none⟩ = some (.int .i64 n0) := ha.cell 8
  have f8 := ha.free 8
  have hne : ∀ {g : Nat} {v : Value} {t : TypeId}, Blk wa g #[v] t → g ≠ a := fun {g v t} h e => by
    subst e
    rw [Blk] at h ha
    rw [h] at ha
    have := congrArg (fun o => match o with | some (Obj.cells cs _ _) => cs.size | _ => 0) ha
    simp [mdCells] at this
  have e1 := hne h1
  have e2 := hne h2
  have e3 := hne h3
  have e4 := hne h4
  have hfd := field109_2
  have hfd0 := field109_0
  have ht0 := ht.1
  obtain ⟨_, F, hM, hP⟩ := ht
  rcases phys_look hM hP hid with ⟨hn, hl⟩ | ⟨sp', rp, hsm, hF, hrb, hrt, hpg, hl⟩
  · rw [hn] at hsp; cases hsp
  rw [hsp] at hsm
  obtain rfl := Option.some.inj hsm
  have hl1 := hl false
  simp only [if_false, Bool.false_eq_true] at hl1
  obtain ⟨wb, hwb⟩ : ∃ wb, wb = wa.setCell ⟨a, 8, none⟩ (.int .i64 (wrap64 (n0 + 1))) := ⟨_, rfl⟩
  have hab2 : rp ≠ a := by
    obtain ⟨G, hG, _⟩ := hpg
    exact hG.ne_blk ha
  have hta : tp ≠ a := hM.ne_blk ha
  have hM2 : MapAt codS wb tp 15 F := by rw [hwb]; exact hM.far (by simpa using hta) _
  have hl2 := (hM2.look und92 (zero109 wb) hid).2
  rw [hF] at hl2
  simp only [Option.getD_some, codS] at hl2
  have hl3 := (MapAt.look (w := wb.drew) (hM2.same rfl) und92 (zero109 _) hid).2
  rw [hF] at hl3
  simp only [Option.getD_some, codS] at hl3
  obtain ⟨G, hG1, hG2, hG3⟩ := hpg
  have hw := (hT id sp hsp)
  have HG := Lib.hid (show MapAt codL wb rp 1024 G by rw [hwb]; exact hG1.far (by simpa using hab2) _)
  have hrpl := hG1.lt
  have b1 : wb.cell? ⟨pb, 0, none⟩ = some (.int .i64 p) := by rw [hwb]; exact (h1.far (by simpa using e1) _).cell 0
  have b2 : wb.cell? ⟨ib, 0, none⟩ = some (.int .i64 id) := by rw [hwb]; exact (h2.far (by simpa using e2) _).cell 0
  have b3 : wb.cell? ⟨mb, 0, none⟩ = some (.pointer (some ⟨a, 0, none⟩)) := by rw [hwb]; exact (h3.far (by simpa using e3) _).cell 0
  have b4 : wb.cell? ⟨sb, 0, none⟩ = some (.string s) := by rw [hwb]; exact (h4.far (by simpa using e4) _).cell 0
  have hab8 : Blk wb a (mdCells np0 oo0 M0 (wrap64 (n0 + 1))) 94 := by
    have := ha.set 8 (.int .i64 (wrap64 (n0 + 1)))
    rw [hwb]
    simpa [mdCells] using this
  have b8 : wb.cell? ⟨a, 8, none⟩ = some (.int .i64 (wrap64 (n0 + 1))) := hab8.cell 8
  have Hab8 := Lib.hid hab8
  have HGd := Lib.hid (show MapAt codL wb.drew rp 1024 G from HG.out.same rfl)
  have Hwb := Lib.hid hwb
  clear hwb hab8
  have HM2 := Lib.hid hM2
  have HP := Lib.hid hP
  have HF := Lib.hid hF
  have HG2 := Lib.hid hG2
  have HG3 := Lib.hid hG3
  have Ha := Lib.hid ha
  clear hl hM hM2 hP hF hG1 hG2 hG3 hT ha hne h1 h2 h3 h4
  have hx : putT T id p s = if 0 ≤ p ∧ p < sp.q then (0, upT T id (some { sp with pages := upP sp.pages p (some s) })) else (81, T) := by simp [putT, hsp]
  by_cases hpos : 0 ≤ p
  · by_cases hlt : p < sp.q
    · rw [hx, if_pos ⟨hpos, hlt⟩] at hW ⊢
      have HW := Lib.hid hW
      clear hW hx
      go_enter Try.func56, Try.ntmps56
      go_wp2
      rw [← Hwb.out]
      clear c1 c2 c3 c4 c8 f8 hl1
      go_still_tail 11, (by kernel_rfl)
      go_wp2_with (first | (at_mapUpdate; refine update_map rfl _ _ _ 107 rfl 111 und107 HGd.out (by omega) p hp (s, wrap64 (n0 + 1)) rfl rfl rfl ?_; intro w5 hO5 hM5 hs5))
      go_ret
      have hm1 : Mut (only a) wa wb.drew := by rw [Hwb.out]; exact ((Mut.refl _ _).cellOf 8 _).drew 1
      have hsz : wb.drew.heap.size = wa.heap.size := by rw [Hwb.out]; simp [World.setCell, World.drew]
      have ht5 : MapAt codS w5 tp 15 F := (HM2.out.same rfl : MapAt codS wb.drew tp 15 F).kept hM5 (fun e => hrt e.symm)
      have hP2 : PhysIn base wb.drew tp T F := HP.out.mut hm1 (fun k sp' rp' _ hF' hs => by
        obtain ⟨rp2, q1, _, _, G', q2, _⟩ := HP.out.2.1 k sp' ‹_›
        rw [hF'] at q1
        simp at q1
        subst q1
        exact q2.ne_blk Ha.out hs)
      have hM' : Mut (fun i => i = a ∨ base ≤ i) wa w5 := (hm1.mono (fun i _ h => Or.inl h)).trans (hM5.mono (fun i _ h => Or.inr (by rw [h]; exact hrb)))
      refine ⟨rfl, hM', fun _ => ?_, fun np oo M n hb hn => ⟨wrap64 (n0 + 1), ?_, wrap64_i64 _⟩⟩
      · refine TreeAt.pages ht5 ht0 hP2 hsp HF.out ⟨up G p (some (s, wrap64 (n0 + 1))), ?_, fun i => ?_, fun i s' n' h => ?_⟩ (fun i hi hne => hM5.block i hi hne) HW.out
        · refine hO5.tight (lo := 0) (q := 1024) (fun k _ hk => ?_)
          by_cases e : k = p
          · subst e; constructor <;> omega
          · rw [up_other _ _ e] at hk
            have h6 := HG2.out k
            cases hg : G k with
            | none => exact absurd hg hk
            | some u =>
              rw [hg] at h6
              have := hw.2.2.2.2 k _ h6.symm
              constructor <;> omega
        · by_cases e : i = p
          · subst e; simp [up, upP]
          · rw [up_other _ _ e, HG2.out]; simp [upP, e]
        · by_cases e : i = p
          · subst e; rw [up_same] at h; simp at h; rw [← h.2]; exact wrap64_i64 _
          · rw [up_other _ _ e] at h; exact HG3.out _ _ _ h
      · have e : mdCells np oo M n = mdCells np0 oo0 M0 n0 := by
          have h1 := Ha.out
          rw [Blk] at h1 hb
          rw [h1] at hb
          simp at hb
          exact hb.symm
        have e2 : mdCells np oo M (wrap64 (n0 + 1)) = mdCells np0 oo0 M0 (wrap64 (n0 + 1)) := by
          have := congrArg (fun c => c.setIfInBounds 8 (Value.int .i64 (wrap64 (n0 + 1)))) e
          simpa [mdCells] using this
        rw [e2]
        exact (show Blk wb.drew a _ 94 from Hab8.out).kept hM5 (fun h => hab2 h.symm)
    · have hge : sp.q ≤ p := by omega
      rw [hx, if_neg (by omega)]
      clear hx
      go_enter Try.func56, Try.ntmps56
      go_wp2
      go_ret
      exact ⟨rfl, Mut.refl _ _, fun h => (by simp at h), fun np oo M n hb hn => ⟨n, hb, hn⟩⟩
  · have hneg : p < 0 := by omega
    rw [hx, if_neg (by omega)]
    clear hx
    go_enter Try.func56, Try.ntmps56
    go_wp2
    go_ret
    exact ⟨rfl, Mut.refl _ _, fun h => (by simp at h), fun np oo M n hb hn => ⟨n, hb, hn⟩⟩
end Go.Proofs.Yteilmbhnbmmcjaa.B
