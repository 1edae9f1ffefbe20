/- Helper: a key there and back, walked. No condition. -/
import Derived.Test.YteilmbhnbmmcjaaKm
import Derived.Test.YteilmbhnbmmcjaaMi
namespace Go.Proofs.Yteilmbhnbmmcjaa.B
open Go.RowKit Go.Proofs.YteilmbhnbmmcjaaW.PrintWords Go.Proofs.Yteilmbhnbmmcjaa.Later
set_option maxRecDepth 100000
set_option maxHeartbeats 3200000
def aw : Pr := ⟨[97], [49]⟩
theorem kdisk_any (w : World) : Calls Try.prog 26 #[] w fun e w' => ∃ a, e = .returned (.pointer (some ⟨a, 0, none⟩)) ∧ w.heap.size ≤ a ∧ MdAt w' a (mkM T0 none 0) ∧ Below w.heap.size w w' := by
  go_enter Try.func26, Try.ntmps26
  go_wp2_with fail
  refine (mnew_any 20 40 0 0 64 _).mono ?_
  rintro e w1 ⟨a, rfl, ha, hM, hB⟩
  go_wp2
  go_ret
  exact ⟨a, rfl, ha, hM, hB⟩
theorem enter62 (x y : Value) (W : World) : (callFunc 62 #[x, y]).run Try.prog W = .ok (.enter 62 #[x, y]) W := by kernel_rfl
theorem aw_good : goodK aw.k aw.v = true := by decide
theorem aw_any : [aw].any (fun x => !goodK x.k x.v) = false := by simp [aw_good]
def actS (P : List Pr) (x : Pr) : List Pr := P ++ [x]
theorem aw_PM (m k : Nat) (hm : m ≤ 1) : PM (fun _ => []) actS [aw] m k = [] ∨ PM (fun _ => []) actS [aw] m k = [aw] := by
  rcases m with _ | _ | m
  · left; rfl
  · simp only [PM, upN]
    by_cases h : k = bucket (prA [aw] 0).k
    · right; rw [if_pos h]; rfl
    · left; rw [if_neg h]
  · omega
theorem aw_len : (prsB [aw]).length ≤ 64 := by
  have h1 := textL_len aw.k (by decide)
  have h2 := textL_len aw.v (by decide)
  have : numL 1 = [1, 1] := by rw [numL, leL, dif_neg (by decide), leL, dif_pos (by decide)]; rfl
  have e1 : textL aw.k = [1, 1, 97] := by show numL 1 ++ [97] = _; rw [this]; rfl
  have e2 : textL aw.v = [1, 1, 49] := by show numL 1 ++ [49] = _; rw [this]; rfl
  rw [prsB_cons, e1, e2]
  simp [prsB]
theorem aw_small : aw.small := by constructor <;> decide
theorem set_aw (a g : Nat) (A : Option Addr) (c : Nat) (w : World) (hD : KvDev w a (fun _ => none)) (hg : Blk w g (stC a) 113) (hga : g ≠ a) (hC : Kd.C prK w A [aw].length [aw]) :
    Calls Try.prog 31 #[.pointer (some ⟨g, 0, none⟩), .slice A [aw].length c] w fun e w2 => e = .returned (.int .i64 0) ∧ KvDev w2 a (pgN (fun _ => none) (fun _ => []) (PM (fun _ => []) actS [aw] 1)) ∧ Mut (only a) w w2 := by
  obtain ⟨F, many, hF, hFp, hlen, hM⟩ := hD
  have hpb : pgB (fun _ => none) (mkM (LT 5 4 F false) none many).see := fun k hk => ⟨(page_LT5 F false k).trans (hFp k hk), hlen k hk⟩
  have hsm : ∀ m, m ≤ 1 → ∀ k, (∀ x ∈ PM (fun _ => []) actS [aw] m k, x.small) ∧ (PM (fun _ => []) actS [aw] m k).length ≤ 10000 ∧ (prsB (PM (fun _ => []) actS [aw] m k)).length ≤ 64 := fun m hm k => by
    rcases aw_PM m k hm with h | h
    · rw [h]; exact ⟨fun x hx => by simp at hx, by simp, by simp [prsB]⟩
    · rw [h]; exact ⟨fun x hx => by obtain rfl := List.mem_singleton.1 hx; exact aw_small, by simp, aw_len⟩
  have hch := change_any _ a g (fun _ => none) hpb (fun _ => []) (fun k _ => rfl) [aw] (by simp) (fun x hx => by obtain rfl := List.mem_singleton.1 hx; constructor <;> decide) A c 62 enter62 actS
    (fun z w2 => z = 0 ∧ KvDev w2 a (pgN (fun _ => none) (fun _ => []) (PM (fun _ => []) actS [aw] 1)) ∧ Mut (only a) w w2) w hM hg hC
    (fun h => by rw [aw_any] at h; cases h) (fun _ k hk _ h => absurd rfl h) (fun _ m hm k _ _ => ⟨(hsm m hm k).1, (hsm m hm k).2.1⟩)
    (fun _ _ m hm w1 v hw hv => by
      obtain rfl : m = 0 := by simpa using hm
      exact set1_end [] (by simp) (fun i j _ h => by simp at h) aw ⟨by simp, fun i h => by simp at h, fun i _ h => by simp at h⟩ v w.heap.size w1 hw hv)
    (fun _ _ ⟨k, _, h⟩ => by have := (hsm 1 (by omega) k).2.2; simp only [List.length_singleton] at h; omega)
    (fun _ _ _ w1 v hb h4 => (kwrite_ok a g (fun _ => none) (fun _ => []) (PM (fun _ => []) actS [aw] 1) v w.heap.size w1 ⟨F, many, hF, hFp, hlen, hM.below hb⟩ (hg.below hb) h4 (fun k _ => hsm 1 (by omega) k)).mono (by
      rintro e w2 ⟨z, rfl, rfl, hd, hm⟩
      exact ⟨0, rfl, rfl, hd, (Mut.of_below hb).trans hm⟩))
  have Hch := Lib.hid hch
  clear hch hsm hpb hM hg hC hF hFp hlen
  go_enter Try.func31, Try.ntmps31
  go_wp2_with fail
  refine Hch.out.mono ?_
  rintro e w1 ⟨z, rfl, rfl, hd, hm⟩
  go_wp2
  go_ret
  exact ⟨rfl, hd, hm⟩
end Go.Proofs.Yteilmbhnbmmcjaa.B
