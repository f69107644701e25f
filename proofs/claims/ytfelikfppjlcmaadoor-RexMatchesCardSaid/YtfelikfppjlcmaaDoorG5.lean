/-
  Parts of the proof of RexMatches, put together: RmSpans RmRefM RmMatches RcRef RexMatchesW. (Helper texts.)
-/
import Derived.Test.YtfelikfppjlcmaaDoorG2
import Derived.Test.YtfelikfppjlcmaaDoorG4

/-
  spans of the reference: the table of a node.
-/
namespace Go.Proofs.YtfelikfppjlcmaaDoor
set_option linter.unusedVariables false
set_option linter.unusedSimpArgs false
open Go.ChangeShapes Go.WideShapes Go.ChangeAt Go.RowKit

namespace Rm
def SpansF (w0 : World) (F : Nat → Prop) (s : ByteArray) (f : Nat) : Prop := ∀ (t : Rx) (cs : Array Value), (Rx.enc f).R F w0 cs.toList t → Rx.good f t → ∀ (μ : List Asrt) (W : World), St w0 W μ → Calls Tryd.prog 28 #[.agg cs, .string s] W (Tab.Ret w0 (s.size + 1) (tb s.size (bt s) f t) μ)
end Rm

set_option maxRecDepth 100000 in
set_option maxHeartbeats 8000000 in
theorem rSpans_step (w0 : World) (F : Nat → Prop) (hF : ∀ b, F b → b < w0.heap.size) (s : ByteArray) (hs : s.size ≤ 1000) (f : Nat) (ih : Rm.SpansF w0 F s f) : Rm.SpansF w0 F s (f + 1) := by
  intro t cs hR hg μ W hst
  obtain ⟨f', hf, vk, hcs, -, hok, hk⟩ := Rx.opened hR
  obtain rfl : f = f' := by omega
  obtain ⟨a0, a1, a2, a3, hws⟩ := Cs.okFour hok
  obtain ⟨ak, bk, ok, ck, rfl, -, k3, k4⟩ := Rx.kidsAt hk
  have hcs2 : cs = #[.int .i64 t.kind, .int .u64 a0, .int .u64 a1, .int .u64 a2, .int .u64 a3, .slice ak t.kids.length ck] := by
    apply Array.toList_inj.1
    rw [hcs, Rx.cel, hws]; rfl
  subst hcs2
  have HST := Lib.hid (hst.alloc #[.int .i64 t.kind, .int .u64 a0, .int .u64 a1, .int .u64 a2, .int .u64 a3, .slice ak t.kids.length ck] 27)
  have HBL := Lib.hid (rBlank_any s.size hs w0)
  have hkn := Rx.good_kind hg
  have HKN := Lib.hid (show ((t.kind = 2 ∧ t.kids.length = 0) ∨ (t.kind = 1 ∧ t.kids.length = 0)) ∨ (t.kind = 3 ∧ t.kids.length = 0) ∨ (t.kind = 6 ∧ t.kids.length = 1) ∨ (t.kind = 4 ∧ t.kids.length = 2) ∨ (t.kind = 5 ∧ t.kids.length = 2) by
    rcases hkn with ⟨h1, h2, _⟩ | ⟨h1, h2, _⟩ | ⟨h1, h2, _⟩ | ⟨h1, h2, _⟩
    · have : t.kids.length = 0 := by rw [h2]; rfl
      omega
    · have : t.kids.length = 0 := by rw [h2]; rfl
      omega
    · omega
    · omega)
  have HOK := Lib.hid hok; have HWS := Lib.hid hws
  have K3 := Lib.hid k3; have K4 := Lib.hid k4; have IH := Lib.hid ih; have HFF := Lib.hid hF
  have HKC := Lib.hid (fun j (hj : j < t.kids.length) => Rcs.good_kid hg hj)
  have HNON := Lib.hid (fun h => Rm.tb_none (n := s.size) (B := Rm.bt s) (f := f) (t := t) h)
  have HEQ := Lib.hid (fun h => Rm.eq_end (n := s.size) (B := Rm.bt s) (f := f) (t := t) h)
  have HBY := Lib.hid (fun h => Rm.by_end (n := s.size) (B := Rm.bt s) (f := f) (t := t) h)
  have HCAT := Lib.hid (fun h => Rm.cat_end (n := s.size) (B := Rm.bt s) (f := f) (t := t) h)
  have HOR := Lib.hid (fun h => Rm.or_end (n := s.size) (B := Rm.bt s) (f := f) (t := t) h)
  have HMID := Lib.hid (fun h i hi => Rm.s_midEnd (n := s.size) (B := Rm.bt s) (f := f) (t := t) (i := i) h hi)
  have HLE := Lib.hid (fun x y h => Rm.tb_le (n := s.size) (B := Rm.bt s) (f := f + 1) (t := t) (x := x) (y := y) h)
  have HZ := Lib.hid (Rm.s_zero (n := s.size) (B := Rm.bt s) (f := f + 1) (t := t))
  rw [hws] at HBY HOK
  clear hR hcs hk hst hkn hg k3 k4 ih hF hf hok hws
  obtain ⟨S, hS⟩ : ∃ S, Rm.tb s.size (Rm.bt s) (f + 1) t = S := ⟨_, rfl⟩
  rw [hS] at HNON HEQ HBY HCAT HOR HMID HLE HZ ⊢
  clear hS
  obtain ⟨kd, hkd⟩ : ∃ x, t.kind = x := ⟨_, rfl⟩
  obtain ⟨kl, hkl⟩ : ∃ x, t.kids = x := ⟨_, rfl⟩
  rw [hkd] at HST HKN HNON HEQ HBY HCAT HOR HMID ⊢
  rw [hkl] at HST HKN HCAT HOR HMID K3 K4 HKC ⊢
  clear hkd hkl
  go_enter Tryd.func28, Tryd.ntmps28
  go_wp2_with (fail)
  go_at_call 63
  refine (HBL.out _ _ HST.out).mono ?_
  intro e w1 hret
  obtain ⟨go, ro, rfl, hro, hst⟩ := hret
  have HRO := Lib.hid hro
  clear HST HBL hro
  have n0 := (hst.nth 1 rfl).celAt (i := 0) rfl
  rcases HKN.out with (⟨hkd, hkl⟩ | ⟨hkd, hkl⟩) | ⟨hkd, hkl⟩ | ⟨hkd, hkl⟩ | ⟨hkd, hkl⟩ | ⟨hkd, hkl⟩
  · clear HKN
    subst hkd
    have heq := HEQ.out rfl
    clear HEQ HNON HBY HCAT HOR HMID HLE HZ hkl
    go_wp2_with (fail)
    clear n0
    go_loopg [6] (s.size + 1) (fun gz v6 wr => ∃ i : Nat, i ≤ s.size + 1 ∧ gz = s.size + 1 - i ∧ v6 = .int .i64 i ∧ St w0 wr (aTab go ro (s.size + 1) (Rm.eqR i) :: aCel W.heap.size 27 #[.int .i64 2, .int .u64 a0, .int .u64 a1, .int .u64 a2, .int .u64 a3, .slice ak kl.length ck] :: μ))
    case atStart => exact ⟨0, by omega, by omega, rfl, by rw [Rm.eq_zero]; exact hst⟩
    case round =>
      clear hst
      obtain ⟨i, hi, hgz, rfl, hst⟩ := hrel
      have HGZ := Lib.hid hgz
      clear hgz
      by_cases hlt : i < s.size + 1
      · have hltI : (i : Int) ≤ s.size := by omega
        have hltJ : (i : Int) < (s.size : Int) + 1 := by omega
        have hnx := hst.tabSet (j := i) (show i < ro.length by rw [HRO.out]; exact hlt) true
        rw [Rm.eq_step] at hnx
        have z1 := hst.tabRow 0 rfl HRO.out hlt
        obtain ⟨z2, zf⟩ := hst.tabGet 0 rfl HRO.out hlt hlt
        obtain ⟨rl, hrl⟩ : ∃ r, ro.getD i 0 = r := ⟨_, rfl⟩
        rw [hrl] at z1 z2 zf hnx
        clear hst hrl
        have HNX := Lib.hid hnx
        clear hnx
        go_wp2_with (fail)
        go_roundg (s.size + 1 - (i + 1))
        case measure => have := HGZ.out; omega
        case rel => exact ⟨i + 1, by omega, rfl, by go_num, HNX.out⟩
      · have hge : ¬ (i : Int) ≤ s.size := by omega
        obtain rfl : i = s.size + 1 := by omega
        rw [heq] at hst
        have hg2 : ¬ ((s.size : Int) + 1 ≤ s.size) := by omega
        go_wp2_with (fail)
        go_ret
        exact ⟨go, ro, rfl, HRO.out, hst.pick [0] 2 rfl rfl⟩
  · clear HKN
    subst hkd
    have heq := HNON.out rfl
    clear HEQ HNON HBY HCAT HOR HMID HLE HZ hkl
    rw [heq] at hst
    go_wp2_with (fail)
    go_ret
    exact ⟨go, ro, rfl, HRO.out, hst.pick [0] 2 rfl rfl⟩
  · clear HKN
    subst hkd
    have heq := HBY.out rfl
    clear HEQ HNON HBY HCAT HOR HMID HLE HZ hkl
    go_wp2_with (fail)
    clear n0
    go_loopg [7] s.size (fun gz v7 wr => ∃ i : Nat, i ≤ s.size ∧ gz = s.size - i ∧ v7 = .int .i64 i ∧ St w0 wr (aTab go ro (s.size + 1) (Rm.byR (fun x => Dm.mem [a0, a1, a2, a3] (Rm.bt s x)) i) :: aCel W.heap.size 27 #[.int .i64 3, .int .u64 a0, .int .u64 a1, .int .u64 a2, .int .u64 a3, .slice ak kl.length ck] :: μ))
    case atStart => exact ⟨0, by omega, by omega, rfl, by rw [Rm.by_zero]; exact hst⟩
    case round =>
      clear hst
      obtain ⟨i, hi, hgz, rfl, hst⟩ := hrel
      have HGZ := Lib.hid hgz
      clear hgz
      by_cases hlt : i < s.size
      · have hltI : (i : Int) < s.size := by omega
        have hltJ : (i : Int) < (s.size : Int) + 1 := by omega
        have hltK : (i : Int) + 1 < (s.size : Int) + 1 := by omega
        have hlt0 : (0 : Int) ≤ (i : Int) + 1 := by omega
        have hiw : IntKind.i64.wrap ((i : Int) + 1) = (i : Int) + 1 := IntWalk.i64_in _ (by omega)
        have hro := HRO.out
        have hbt := Rm.bt_get s i hlt
        have hbl := Rm.bt_lt s i
        have HHA := Lib.hid (fun W => Cs.has_words [a0, a1, a2, a3] HOK.out (Rm.bt s i) hbl W)
        rw [show Cs.clV [a0, a1, a2, a3] = .agg #[.int .u64 a0, .int .u64 a1, .int .u64 a2, .int .u64 a3] from rfl] at HHA
        have HNX := Lib.hid (fun W' (h : St w0 W' (aTab go ro (s.size + 1) (Rm.byR (fun x => Dm.mem [a0, a1, a2, a3] (Rm.bt s x)) i) :: aCel W.heap.size 27 #[.int .i64 3, .int .u64 a0, .int .u64 a1, .int .u64 a2, .int .u64 a3, .slice ak kl.length ck] :: μ)) => (show St w0 (W'.setCell ⟨ro.getD i 0, i + 1, none⟩ (.bool (Dm.mem [a0, a1, a2, a3] (Rm.bt s i)))) (aTab go ro (s.size + 1) (Rm.byR (fun x => Dm.mem [a0, a1, a2, a3] (Rm.bt s x)) (i + 1)) :: aCel W.heap.size 27 #[.int .i64 3, .int .u64 a0, .int .u64 a1, .int .u64 a2, .int .u64 a3, .slice ak kl.length ck] :: μ) from by have h2 := h.tabSet (j := i + 1) (show i < ro.length by omega) (Dm.mem [a0, a1, a2, a3] (Rm.bt s i)); rw [Rm.by_step (fun x => Dm.mem [a0, a1, a2, a3] (Rm.bt s x)) i] at h2; exact h2))
        have HG := Lib.hid (fun W' R (h : St w0 W' (aTab go ro (s.size + 1) R :: aCel W.heap.size 27 #[.int .i64 3, .int .u64 a0, .int .u64 a1, .int .u64 a2, .int .u64 a3, .slice ak kl.length ck] :: μ)) => And.intro (h.tabRow 0 rfl hro (show i < s.size + 1 by omega)) (h.tabGet 0 rfl hro (show i < s.size + 1 by omega) (show i + 1 < s.size + 1 by omega)))
        obtain ⟨rl, hrl⟩ : ∃ r, ro.getD i 0 = r := ⟨_, rfl⟩
        rw [hrl] at HNX HG
        clear hrl hro
        obtain ⟨z1, z2, zf⟩ := HG.out _ _ hst
        obtain ⟨x, hx⟩ : ∃ x, Rm.bt s i = x := ⟨_, rfl⟩
        rw [hx] at hbt hbl HHA HNX
        clear hx
        have hxw : IntKind.i64.wrap (x : Int) = (x : Int) := IntWalk.i64_in _ (by omega)
        obtain ⟨b, hb⟩ : ∃ b, Dm.mem [a0, a1, a2, a3] x = b := ⟨_, rfl⟩
        rw [hb] at HHA HNX
        clear hb
        have HST := Lib.hid hst
        clear hst
        obtain ⟨m0, m1, m2, m3, m4, m5⟩ := Rx.cel6 HST.out 1 rfl
        go_wp2_with (fail)
        refine wp_region_held_drew (S := (fun w' => w'.cell? ⟨go, i, none⟩ = some (.slice (some ⟨rl, 0, none⟩) (s.size + 1) (s.size + 1)) ∧ w'.cell? ⟨W.heap.size, 1, none⟩ = some (.int .u64 a0) ∧ w'.cell? ⟨W.heap.size, 2, none⟩ = some (.int .u64 a1) ∧ w'.cell? ⟨W.heap.size, 3, none⟩ = some (.int .u64 a2) ∧ w'.cell? ⟨W.heap.size, 4, none⟩ = some (.int .u64 a3))) (by kernel_rfl) ?_ (fun hHeld => ?_)
        · (try dsimp only); (first | exact ⟨z1, m1, m2, m3, m4⟩ | exact ⟨z1b, m1b, m2b, m3b, m4b⟩ | exact ⟨z1c, m1c, m2c, m3c, m4c⟩)

        refine wpAnyH_take (i := 0) (v := ?_) rfl (by kernel_rfl) (by kernel_rfl) (by kernel_rfl) (fun _ _ _ h => h) (Or.inl ⟨by rfl, ?_⟩) (by assumption) ?_
        rotate_left; focus (intro w hSw; (try dsimp only at hSw); go_simp; try (with_reducible rfl); done)
        try simp only [List.getElem_toArray, List.getElem_cons_zero, List.getElem_cons_succ, Act.put, List.setIfInBounds_toArray, List.set_cons_zero, List.set_cons_succ]
        refine wpAnyH_take (i := 1) (v := ?_) rfl (by kernel_rfl) (by kernel_rfl) (by kernel_rfl) (fun _ _ _ h => h) (Or.inl ⟨by rfl, ?_⟩) (by assumption) ?_
        rotate_left; focus (intro w hSw; (try dsimp only at hSw); go_simp; try (with_reducible rfl); done)
        try simp only [List.getElem_toArray, List.getElem_cons_zero, List.getElem_cons_succ, Act.put, List.setIfInBounds_toArray, List.set_cons_zero, List.set_cons_succ]
        refine wpAnyH_take (i := 2) (v := ?_) rfl (by kernel_rfl) (by kernel_rfl) (by kernel_rfl) (fun _ _ _ h => h) (Or.inl ⟨by rfl, ?_⟩) (by assumption) ?_
        rotate_left; focus (intro w hSw; (try dsimp only at hSw); go_simp; try (with_reducible rfl); done)
        try simp only [List.getElem_toArray, List.getElem_cons_zero, List.getElem_cons_succ, Act.put, List.setIfInBounds_toArray, List.set_cons_zero, List.set_cons_succ]
        refine wpAnyH_take (i := 3) (v := ?_) rfl (by kernel_rfl) (by kernel_rfl) (by kernel_rfl) (fun _ _ _ h => h) (Or.inl ⟨by rfl, ?_⟩) (by assumption) ?_
        rotate_left; focus (intro w hSw; (try dsimp only at hSw); go_simp; try (with_reducible rfl); done)
        try simp only [List.getElem_toArray, List.getElem_cons_zero, List.getElem_cons_succ, Act.put, List.setIfInBounds_toArray, List.set_cons_zero, List.set_cons_succ]
        refine wpAnyH_take (i := 4) (v := ?_) rfl (by kernel_rfl) (by kernel_rfl) (by kernel_rfl) (fun _ _ _ h => h) (Or.inl ⟨by rfl, ?_⟩) (by assumption) ?_
        rotate_left; focus (intro w hSw; (try dsimp only at hSw); go_simp; try (with_reducible rfl); done)
        try simp only [List.getElem_toArray, List.getElem_cons_zero, List.getElem_cons_succ, Act.put, List.setIfInBounds_toArray, List.set_cons_zero, List.set_cons_succ]
        refine wpAnyH_take (i := 5) (v := ?_) rfl (by kernel_rfl) (by kernel_rfl) (by kernel_rfl) (fun _ _ _ h => h) (Or.inl ⟨by rfl, ?_⟩) (by assumption) ?_
        rotate_left; focus (intro w hSw; (try dsimp only at hSw); go_simp; try (with_reducible rfl); done)
        try simp only [List.getElem_toArray, List.getElem_cons_zero, List.getElem_cons_succ, Act.put, List.setIfInBounds_toArray, List.set_cons_zero, List.set_cons_succ]
        refine wpAnyH_take (i := 6) (v := ?_) rfl (by kernel_rfl) (by kernel_rfl) (by kernel_rfl) (fun _ _ _ h => h) (Or.inl ⟨by rfl, ?_⟩) (by assumption) ?_
        rotate_left; focus (intro w hSw; (try dsimp only at hSw); go_simp; try (with_reducible rfl); done)
        try simp only [List.getElem_toArray, List.getElem_cons_zero, List.getElem_cons_succ, Act.put, List.setIfInBounds_toArray, List.set_cons_zero, List.set_cons_succ]
        refine wpAnyH_take (i := 7) (v := ?_) rfl (by kernel_rfl) (by kernel_rfl) (by kernel_rfl) (fun _ _ _ h => h) (Or.inl ⟨by rfl, ?_⟩) (by assumption) ?_
        rotate_left; focus (intro w hSw; (try dsimp only at hSw); go_simp; try (with_reducible rfl); done)
        try simp only [List.getElem_toArray, List.getElem_cons_zero, List.getElem_cons_succ, Act.put, List.setIfInBounds_toArray, List.set_cons_zero, List.set_cons_succ]
        refine wpAnyH_take (i := 8) (v := ?_) rfl (by kernel_rfl) (by kernel_rfl) (by kernel_rfl) (fun _ _ _ h => h) (Or.inl ⟨by rfl, ?_⟩) (by assumption) ?_
        rotate_left; focus (intro w hSw; (try dsimp only at hSw); go_simp; try (with_reducible rfl); done)
        try simp only [List.getElem_toArray, List.getElem_cons_zero, List.getElem_cons_succ, Act.put, List.setIfInBounds_toArray, List.set_cons_zero, List.set_cons_succ]
        refine wpAnyH_take (i := 9) (v := ?_) rfl (by kernel_rfl) (by kernel_rfl) (by kernel_rfl) (fun _ _ _ h => h) (Or.inl ⟨by rfl, ?_⟩) (by assumption) ?_
        rotate_left; focus (intro w hSw; (try dsimp only at hSw); go_simp; try (with_reducible rfl); done)
        try simp only [List.getElem_toArray, List.getElem_cons_zero, List.getElem_cons_succ, Act.put, List.setIfInBounds_toArray, List.set_cons_zero, List.set_cons_succ]
        refine wpAnyH_take (i := 10) (v := ?_) rfl (by kernel_rfl) (by kernel_rfl) (by kernel_rfl) (fun _ _ _ h => h) (Or.inl ⟨by rfl, ?_⟩) (by assumption) ?_
        rotate_left; focus (intro w hSw; (try dsimp only at hSw); go_simp; try (with_reducible rfl); done)
        try simp only [List.getElem_toArray, List.getElem_cons_zero, List.getElem_cons_succ, Act.put, List.setIfInBounds_toArray, List.set_cons_zero, List.set_cons_succ]
        refine wpAnyH_take (i := 11) (v := ?_) rfl (by kernel_rfl) (by kernel_rfl) (by kernel_rfl) (fun _ _ _ h => h) (Or.inl ⟨by rfl, ?_⟩) (by assumption) ?_
        rotate_left; focus (intro w hSw; (try dsimp only at hSw); go_simp; try (with_reducible rfl); done)
        try simp only [List.getElem_toArray, List.getElem_cons_zero, List.getElem_cons_succ, Act.put, List.setIfInBounds_toArray, List.set_cons_zero, List.set_cons_succ]
        refine wpAnyH_ready (rs := [12]) (by kernel_rfl) (by simp) ?_
        refine AllReadyH.cons rfl (fun K hK => ?_) AllReadyH.nil
        go_simp
        (go_at_call 64; refine (HHA.out _).mono ?_; rintro e w6 ⟨rfl, hb6⟩; have HST2 := Lib.hid (HST.out.drew.call hb6); obtain ⟨z1b, z2b, zfb⟩ := HG.out _ _ HST2.out; obtain ⟨m0b, m1b, m2b, m3b, m4b, m5b⟩ := Rx.cel6 HST2.out 1 rfl; have HST3 := Lib.hid (HNX.out _ HST2.out); obtain ⟨z1c, z2c, zfc⟩ := HG.out _ _ HST3.out; obtain ⟨m0c, m1c, m2c, m3c, m4c, m5c⟩ := Rx.cel6 HST3.out 1 rfl; clear hb6)
        refine hK.out _ _ ?_ (fun hHeld => ?_)
        · (try dsimp only); (first | exact ⟨z1, m1, m2, m3, m4⟩ | exact ⟨z1b, m1b, m2b, m3b, m4b⟩ | exact ⟨z1c, m1c, m2c, m3c, m4c⟩)
        clear hK K
        try simp only [List.getElem_toArray, List.getElem_cons_zero, List.getElem_cons_succ, Act.put, List.setIfInBounds_toArray, List.set_cons_zero, List.set_cons_succ]
        refine wpAnyH_take (i := 13) (v := ?_) rfl (by kernel_rfl) (by kernel_rfl) (by kernel_rfl) (fun _ _ _ h => h) (Or.inl ⟨by rfl, ?_⟩) (by assumption) ?_
        rotate_left; focus (intro w hSw; (try dsimp only at hSw); go_simp; try (with_reducible rfl); done)
        try simp only [List.getElem_toArray, List.getElem_cons_zero, List.getElem_cons_succ, Act.put, List.setIfInBounds_toArray, List.set_cons_zero, List.set_cons_succ]
        refine wpAnyH_ready (rs := [14]) (by kernel_rfl) (by simp) ?_
        refine AllReadyH.cons rfl (fun K hK => ?_) AllReadyH.nil
        go_simp
        refine hK.out _ _ ?_ (fun hHeld => ?_)
        · (try dsimp only); (first | exact ⟨z1, m1, m2, m3, m4⟩ | exact ⟨z1b, m1b, m2b, m3b, m4b⟩ | exact ⟨z1c, m1c, m2c, m3c, m4c⟩)
        clear hK K
        try simp only [List.getElem_toArray, List.getElem_cons_zero, List.getElem_cons_succ, Act.put, List.setIfInBounds_toArray, List.set_cons_zero, List.set_cons_succ]
        refine wpAnyH_done (by kernel_rfl) ?_ _
        go_wp2
        go_roundg (s.size - (i + 1))
        case measure => have := HGZ.out; omega
        case rel => exact ⟨i + 1, by omega, rfl, by go_num, HST3.out⟩
      · have hge : ¬ (i : Int) < s.size := by omega
        obtain rfl : i = s.size := by omega
        rw [heq] at hst
        go_wp2_with (fail)
        go_ret
        exact ⟨go, ro, rfl, HRO.out, hst.pick [0] 2 rfl rfl⟩
  · clear HKN
    subst hkd
    obtain ⟨rfl, -, -⟩ := K3.out (by omega)
    have hkN : 0 < kl.length := by omega
    have hkI : (0 : Int) < kl.length := by omega
    obtain ⟨b00, b01, b02, b03, ax0, cx0, -, e00, e01, e02, e03, e04, e05, hen0⟩ := K4.out 0 (by omega)
    have g01 := HKC.out 0 (by omega)
    have HI0 := Lib.hid (IH.out (kl.getD 0 Rx.nil) #[.int .i64 (kl.getD 0 Rx.nil).kind, .int .u64 b00, .int .u64 b01, .int .u64 b02, .int .u64 b03, .slice ax0 (kl.getD 0 Rx.nil).kids.length cx0] hen0 g01)
    simp only [Nat.zero_mul, Nat.one_mul, Nat.add_zero] at e00 e01 e02 e03 e04 e05
    clear hen0 g01
    have hmid := fun i hi => HMID.out rfl i hi
    clear HEQ HNON HBY HCAT HOR HMID hkl
    generalize (kl.getD 0 Rx.nil).kind = kk0 at *
    generalize (kl.getD 0 Rx.nil).kids.length = kn0 at *
    generalize kl.getD 0 Rx.nil = kid0 at *
    have e00 := Lib.hid e00
    have e01 := Lib.hid e01
    have e02 := Lib.hid e02
    have e03 := Lib.hid e03
    have e04 := Lib.hid e04
    have e05 := Lib.hid e05
    generalize Rm.tb s.size (Rm.bt s) f kid0 = A at *
    have HM := Lib.hid hmid
    clear hmid
    have q5 := (hst.nth 1 rfl).celAt (i := 5) rfl
    obtain ⟨q6, q7, q8, q9, q10, q11⟩ := And.intro (bkeep hst.bel e00.out) (And.intro (bkeep hst.bel e01.out) (And.intro (bkeep hst.bel e02.out) (And.intro (bkeep hst.bel e03.out) (And.intro (bkeep hst.bel e04.out) (bkeep hst.bel e05.out)))))
    go_wp2_with (fail)
    go_at_call 28
    refine (HI0.out _ _ hst).mono ?_
    intro e w5 hret
    obtain ⟨g0, r0, rfl, hr0, hst5⟩ := hret
    have hst := hst5.pick (ρ := aTab go ro (s.size + 1) (fun _ _ => false) :: aTab g0 r0 (s.size + 1) A :: aCel W.heap.size 27 #[.int .i64 6, .int .u64 a0, .int .u64 a1, .int .u64 a2, .int .u64 a3, .slice (some ⟨bk, ok, none⟩) kl.length ck] :: μ) [1, 0, 2] 3 rfl rfl
    have HR0 := Lib.hid hr0
    clear hst5 hr0 HI0 n0 q5 q6 q7 q8 q9 q10 q11
    rw [← HZ.out] at hst
    go_wp2_with (fail)
    go_loopg [13] (s.size + 1) (fun gz v13 wr => ∃ k : Nat, k ≤ s.size + 1 ∧ gz = k ∧ v13 = .int .i64 ((k : Int) - 1) ∧ St w0 wr (aTab go ro (s.size + 1) (Rm.stO S k) :: aTab g0 r0 (s.size + 1) A :: aCel W.heap.size 27 #[.int .i64 6, .int .u64 a0, .int .u64 a1, .int .u64 a2, .int .u64 a3, .slice (some ⟨bk, ok, none⟩) kl.length ck] :: μ))
    case atStart => exact ⟨s.size + 1, by omega, rfl, by go_num, hst⟩
    case round =>
      clear hst
      obtain ⟨k, hk, hgz, rfl, hst⟩ := hrel
      have HGZ := Lib.hid hgz
      clear hgz
      cases k with
      | zero =>
        rw [Rm.s_end] at hst
        go_wp2_with (fail)
        go_ret
        exact ⟨go, ro, rfl, HRO.out, hst.pick [0] 3 rfl rfl⟩
      | succ i =>
        have hlt : i < s.size + 1 := by omega
        have hltJ : (i : Int) < (s.size : Int) + 1 := by omega
        have hi0 : ((i + 1 : Nat) : Int) - 1 = (i : Int) := by omega
        rw [hi0]
        have hi00 : (0 : Int) ≤ (i : Int) := by omega
        have hiw : IntKind.i64.wrap ((i : Int) + 1) = (i : Int) + 1 := IntWalk.i64_in _ (by omega)
        have z1 := hst.tabRow 0 rfl HRO.out hlt
        have z2 := hst.tabGet 0 rfl HRO.out hlt hlt
        have hnx := hst.tabSet (j := i) (show i < ro.length by rw [HRO.out]; exact hlt) true
        rw [Rm.s_start (A := A)] at hnx
        obtain ⟨z2, zf⟩ := z2
        obtain ⟨rl, hrl⟩ : ∃ r, ro.getD i 0 = r := ⟨_, rfl⟩
        rw [hrl] at z1 z2 zf hnx
        clear hst
        have hst := hnx
        clear hnx
        go_wp2_with (fail)
        go_loopg [14] (s.size + 1 - (i + 1)) (fun gz v14 wr => ∃ m : Nat, i + 1 ≤ m ∧ m ≤ s.size + 1 ∧ gz = s.size + 1 - m ∧ v14 = .int .i64 m ∧ St w0 wr (aTab go ro (s.size + 1) (Rm.stM A S i m) :: aTab g0 r0 (s.size + 1) A :: aCel W.heap.size 27 #[.int .i64 6, .int .u64 a0, .int .u64 a1, .int .u64 a2, .int .u64 a3, .slice (some ⟨bk, ok, none⟩) kl.length ck] :: μ))
        case atStart => exact ⟨i + 1, by omega, by omega, rfl, by go_num, hst⟩
        case round =>
          clear hst z1 z2 zf
          obtain ⟨m, him, hm, hgz, rfl, hst⟩ := hrel
          have HGZ2 := Lib.hid hgz
          clear hgz
          by_cases hlm : m < s.size + 1
          · have hlmI : (m : Int) ≤ s.size := by omega
            have hlmJ : (m : Int) < (s.size : Int) + 1 := by omega
            go_wp2_with (fail)
            go_loopg [15] (s.size + 1 - m) (fun gz v15 wr => ∃ j : Nat, m ≤ j ∧ j ≤ s.size + 1 ∧ gz = s.size + 1 - j ∧ v15 = .int .i64 j ∧ St w0 wr (aTab go ro (s.size + 1) (Rm.stI A S i m j) :: aTab g0 r0 (s.size + 1) A :: aCel W.heap.size 27 #[.int .i64 6, .int .u64 a0, .int .u64 a1, .int .u64 a2, .int .u64 a3, .slice (some ⟨bk, ok, none⟩) kl.length ck] :: μ))
            case atStart => exact ⟨m, by omega, by omega, rfl, rfl, by rw [Rm.s_in (fun x y h => (HLE.out x y h).1)]; exact hst⟩
            case round =>
              clear hst
              obtain ⟨j, hmj, hj, hgz, rfl, hst⟩ := hrel
              have HGZ3 := Lib.hid hgz
              clear hgz
              have x1 := hst.tabRow 1 rfl HR0.out hlt
              have x2 := (hst.tabGet 1 rfl HR0.out hlt hlm).1
              obtain ⟨ra, hra⟩ : ∃ r, r0.getD i 0 = r := ⟨_, rfl⟩
              rw [hra] at x1 x2
              cases hA : A i m
              · rw [hA] at x2
                go_wp2_with (fail)
                go_roundg (s.size + 1 - (m + 1))
                case measure => have := HGZ2.out; omega
                case rel => exact ⟨m + 1, by omega, by omega, rfl, by go_num, by rw [← Rm.s_none hA j]; exact hst⟩
              · rw [hA] at x2
                by_cases hlj : j < s.size + 1
                · have hljI : (j : Int) ≤ s.size := by omega
                  have hljJ : (j : Int) < (s.size : Int) + 1 := by omega
                  have hljd : decide ((j : Int) ≤ (s.size : Int)) = true := decide_eq_true hljI
                  have z1 := hst.tabRow 0 rfl HRO.out hlt
                  have z2 := hst.tabGet 0 rfl HRO.out hlt hlj
                  have y1 := hst.tabRow 0 rfl HRO.out hlm
                  have y2 := (hst.tabGet 0 rfl HRO.out hlm hlj).1
                  rw [Rm.s_row (show i < m by omega)] at y2
                  have HNX := Lib.hid (fun b (h : b = (Rm.stI A S i m j i j || S m j)) => (show St w0 (wr.setCell ⟨ro.getD i 0, j, none⟩ (.bool b)) (aTab go ro (s.size + 1) (Rm.stI A S i m (j + 1)) :: aTab g0 r0 (s.size + 1) A :: aCel W.heap.size 27 #[.int .i64 6, .int .u64 a0, .int .u64 a1, .int .u64 a2, .int .u64 a3, .slice (some ⟨bk, ok, none⟩) kl.length ck] :: μ) from by have h2 := hst.tabSet (j := j) (show i < ro.length by rw [HRO.out]; exact hlt) (Rm.stI A S i m j i j || S m j); rw [Rm.s_step (show i < m by omega) hA] at h2; rw [h]; exact h2))
                  have HZ2 := Lib.hid (fun W' (h : St w0 W' (aTab go ro (s.size + 1) (Rm.stI A S i m (j + 1)) :: aTab g0 r0 (s.size + 1) A :: aCel W.heap.size 27 #[.int .i64 6, .int .u64 a0, .int .u64 a1, .int .u64 a2, .int .u64 a3, .slice (some ⟨bk, ok, none⟩) kl.length ck] :: μ)) => And.intro (h.tabRow 0 rfl HRO.out hlt) (And.intro (h.tabRow 0 rfl HRO.out hlm) (h.tabGet 0 rfl HRO.out hlm hlj).1))
                  rw [Rm.s_row (show i < m by omega)] at HZ2
                  rw [hrl] at z1 z2 HNX HZ2
                  obtain ⟨rm, hrm⟩ : ∃ r, ro.getD m 0 = r := ⟨_, rfl⟩
                  obtain ⟨c, hc⟩ : ∃ c, Rm.stI A S i m j i j = c := ⟨_, rfl⟩
                  obtain ⟨d, hd⟩ : ∃ d, S m j = d := ⟨_, rfl⟩
                  rw [hrm] at y1 y2 HZ2
                  rw [hc] at z2 HNX
                  rw [hd] at y2 HNX HZ2
                  obtain ⟨z2, zf⟩ := z2
                  clear hrm hc hd hra hst
                  go_wp2_with (fail)
                  cases c
                  · have hN := HNX.out d (by cases d <;> rfl)
                    refine wp_region_held_drew (S := (fun w' => w'.cell? ⟨go, i, none⟩ = some (.slice (some ⟨rl, 0, none⟩) (s.size + 1) (s.size + 1)) ∧ w'.cell? ⟨go, m, none⟩ = some (.slice (some ⟨rm, 0, none⟩) (s.size + 1) (s.size + 1)) ∧ w'.cell? ⟨rm, j, none⟩ = some (.bool d))) (by kernel_rfl) ?_ (fun hHeld => ?_)
                    · (try dsimp only); (first | exact ⟨z1, y1, y2⟩ | exact HZ2.out _ hN.drew | exact HZ2.out _ hN)

                    refine wpAnyH_take (i := 0) (v := ?_) rfl (by kernel_rfl) (by kernel_rfl) (by kernel_rfl) (fun _ _ _ h => h) (Or.inl ⟨by rfl, ?_⟩) (by assumption) ?_
                    rotate_left; focus (intro w hSw; (try dsimp only at hSw); go_simp; try (with_reducible rfl); done)
                    try simp only [List.getElem_toArray, List.getElem_cons_zero, List.getElem_cons_succ, Act.put, List.setIfInBounds_toArray, List.set_cons_zero, List.set_cons_succ]
                    refine wpAnyH_take (i := 1) (v := ?_) rfl (by kernel_rfl) (by kernel_rfl) (by kernel_rfl) (fun _ _ _ h => h) (Or.inl ⟨by rfl, ?_⟩) (by assumption) ?_
                    rotate_left; focus (intro w hSw; (try dsimp only at hSw); go_simp; try (with_reducible rfl); done)
                    try simp only [List.getElem_toArray, List.getElem_cons_zero, List.getElem_cons_succ, Act.put, List.setIfInBounds_toArray, List.set_cons_zero, List.set_cons_succ]
                    refine wpAnyH_take (i := 2) (v := ?_) rfl (by kernel_rfl) (by kernel_rfl) (by kernel_rfl) (fun _ _ _ h => h) (Or.inl ⟨by rfl, ?_⟩) (by assumption) ?_
                    rotate_left; focus (intro w hSw; (try dsimp only at hSw); go_simp; try (with_reducible rfl); done)
                    try simp only [List.getElem_toArray, List.getElem_cons_zero, List.getElem_cons_succ, Act.put, List.setIfInBounds_toArray, List.set_cons_zero, List.set_cons_succ]
                    refine wpAnyH_take (i := 3) (v := ?_) rfl (by kernel_rfl) (by kernel_rfl) (by kernel_rfl) (fun _ _ _ h => h) (Or.inl ⟨by rfl, ?_⟩) (by assumption) ?_
                    rotate_left; focus (intro w hSw; (try dsimp only at hSw); go_simp; try (with_reducible rfl); done)
                    try simp only [List.getElem_toArray, List.getElem_cons_zero, List.getElem_cons_succ, Act.put, List.setIfInBounds_toArray, List.set_cons_zero, List.set_cons_succ]
                    refine wpAnyH_take (i := 4) (v := ?_) rfl (by kernel_rfl) (by kernel_rfl) (by kernel_rfl) (fun _ _ _ h => h) (Or.inl ⟨by rfl, ?_⟩) (by assumption) ?_
                    rotate_left; focus (intro w hSw; (try dsimp only at hSw); go_simp; try (with_reducible rfl); done)
                    try simp only [List.getElem_toArray, List.getElem_cons_zero, List.getElem_cons_succ, Act.put, List.setIfInBounds_toArray, List.set_cons_zero, List.set_cons_succ]
                    refine wpAnyH_take (i := 5) (v := ?_) rfl (by kernel_rfl) (by kernel_rfl) (by kernel_rfl) (fun _ _ _ h => h) (Or.inl ⟨by rfl, ?_⟩) (by assumption) ?_
                    rotate_left; focus (intro w hSw; (try dsimp only at hSw); go_simp; try (with_reducible rfl); done)
                    try simp only [List.getElem_toArray, List.getElem_cons_zero, List.getElem_cons_succ, Act.put, List.setIfInBounds_toArray, List.set_cons_zero, List.set_cons_succ]
                    refine wpAnyH_take (i := 6) (v := ?_) rfl (by kernel_rfl) (by kernel_rfl) (by kernel_rfl) (fun _ _ _ h => h) (Or.inl ⟨by rfl, ?_⟩) (by assumption) ?_
                    rotate_left; focus (intro w hSw; (try dsimp only at hSw); go_simp; try (with_reducible rfl); done)
                    try simp only [List.getElem_toArray, List.getElem_cons_zero, List.getElem_cons_succ, Act.put, List.setIfInBounds_toArray, List.set_cons_zero, List.set_cons_succ]
                    refine wpAnyH_take (i := 7) (v := ?_) rfl (by kernel_rfl) (by kernel_rfl) (by kernel_rfl) (fun _ _ _ h => h) (Or.inl ⟨by rfl, ?_⟩) (by assumption) ?_
                    rotate_left; focus (intro w hSw; (try dsimp only at hSw); go_simp; try (with_reducible rfl); done)
                    try simp only [List.getElem_toArray, List.getElem_cons_zero, List.getElem_cons_succ, Act.put, List.setIfInBounds_toArray, List.set_cons_zero, List.set_cons_succ]
                    refine wpAnyH_take (i := 8) (v := ?_) rfl (by kernel_rfl) (by kernel_rfl) (by kernel_rfl) (fun _ _ _ h => h) (Or.inl ⟨by rfl, ?_⟩) (by assumption) ?_
                    rotate_left; focus (intro w hSw; (try dsimp only at hSw); go_simp; try (with_reducible rfl); done)
                    try simp only [List.getElem_toArray, List.getElem_cons_zero, List.getElem_cons_succ, Act.put, List.setIfInBounds_toArray, List.set_cons_zero, List.set_cons_succ]
                    refine wpAnyH_take (i := 9) (v := ?_) rfl (by kernel_rfl) (by kernel_rfl) (by kernel_rfl) (fun _ _ _ h => h) (Or.inl ⟨by rfl, ?_⟩) (by assumption) ?_
                    rotate_left; focus (intro w hSw; (try dsimp only at hSw); go_simp; try (with_reducible rfl); done)
                    try simp only [List.getElem_toArray, List.getElem_cons_zero, List.getElem_cons_succ, Act.put, List.setIfInBounds_toArray, List.set_cons_zero, List.set_cons_succ]
                    refine wpAnyH_take (i := 10) (v := ?_) rfl (by kernel_rfl) (by kernel_rfl) (by kernel_rfl) (fun _ _ _ h => h) (Or.inl ⟨by rfl, ?_⟩) (by assumption) ?_
                    rotate_left; focus (intro w hSw; (try dsimp only at hSw); go_simp; try (with_reducible rfl); done)
                    try simp only [List.getElem_toArray, List.getElem_cons_zero, List.getElem_cons_succ, Act.put, List.setIfInBounds_toArray, List.set_cons_zero, List.set_cons_succ]
                    refine wpAnyH_ready (rs := [11]) (by kernel_rfl) (by simp) ?_
                    refine AllReadyH.cons rfl (fun K hK => ?_) AllReadyH.nil
                    go_simp
                    refine hK.out _ _ ?_ (fun hHeld => ?_)
                    · (try dsimp only); (first | exact ⟨z1, y1, y2⟩ | exact HZ2.out _ hN.drew | exact HZ2.out _ hN)
                    clear hK K
                    try simp only [List.getElem_toArray, List.getElem_cons_zero, List.getElem_cons_succ, Act.put, List.setIfInBounds_toArray, List.set_cons_zero, List.set_cons_succ]
                    refine wpAnyH_take (i := 12) (v := ?_) rfl (by kernel_rfl) (by kernel_rfl) (by kernel_rfl) (fun _ _ _ h => h) (Or.inl ⟨by rfl, ?_⟩) (by assumption) ?_
                    rotate_left; focus (intro w hSw; (try dsimp only at hSw); go_simp; try (with_reducible rfl); done)
                    try simp only [List.getElem_toArray, List.getElem_cons_zero, List.getElem_cons_succ, Act.put, List.setIfInBounds_toArray, List.set_cons_zero, List.set_cons_succ]
                    refine wpAnyH_take (i := 13) (v := ?_) rfl (by kernel_rfl) (by kernel_rfl) (by kernel_rfl) (fun _ _ _ h => h) (Or.inl ⟨by rfl, ?_⟩) (by assumption) ?_
                    rotate_left; focus (intro w hSw; (try dsimp only at hSw); go_simp; try (with_reducible rfl); done)
                    try simp only [List.getElem_toArray, List.getElem_cons_zero, List.getElem_cons_succ, Act.put, List.setIfInBounds_toArray, List.set_cons_zero, List.set_cons_succ]
                    refine wpAnyH_take (i := 14) (v := ?_) rfl (by kernel_rfl) (by kernel_rfl) (by kernel_rfl) (fun _ _ _ h => h) (Or.inl ⟨by rfl, ?_⟩) (by assumption) ?_
                    rotate_left; focus (intro w hSw; (try dsimp only at hSw); go_simp; try (with_reducible rfl); done)
                    try simp only [List.getElem_toArray, List.getElem_cons_zero, List.getElem_cons_succ, Act.put, List.setIfInBounds_toArray, List.set_cons_zero, List.set_cons_succ]
                    refine wpAnyH_take (i := 15) (v := ?_) rfl (by kernel_rfl) (by kernel_rfl) (by kernel_rfl) (fun _ _ _ h => h) (Or.inl ⟨by rfl, ?_⟩) (by assumption) ?_
                    rotate_left; focus (intro w hSw; (try dsimp only at hSw); go_simp; try (with_reducible rfl); done)
                    try simp only [List.getElem_toArray, List.getElem_cons_zero, List.getElem_cons_succ, Act.put, List.setIfInBounds_toArray, List.set_cons_zero, List.set_cons_succ]
                    refine wpAnyH_take (i := 16) (v := ?_) rfl (by kernel_rfl) (by kernel_rfl) (by kernel_rfl) (fun _ _ _ h => h) (Or.inl ⟨by rfl, ?_⟩) (by assumption) ?_
                    rotate_left; focus (intro w hSw; (try dsimp only at hSw); go_simp; try (with_reducible rfl); done)
                    try simp only [List.getElem_toArray, List.getElem_cons_zero, List.getElem_cons_succ, Act.put, List.setIfInBounds_toArray, List.set_cons_zero, List.set_cons_succ]
                    refine wpAnyH_take (i := 17) (v := ?_) rfl (by kernel_rfl) (by kernel_rfl) (by kernel_rfl) (fun _ _ _ h => h) (Or.inl ⟨by rfl, ?_⟩) (by assumption) ?_
                    rotate_left; focus (intro w hSw; (try dsimp only at hSw); go_simp; try (with_reducible rfl); done)
                    try simp only [List.getElem_toArray, List.getElem_cons_zero, List.getElem_cons_succ, Act.put, List.setIfInBounds_toArray, List.set_cons_zero, List.set_cons_succ]
                    refine wpAnyH_take (i := 18) (v := ?_) rfl (by kernel_rfl) (by kernel_rfl) (by kernel_rfl) (fun _ _ _ h => h) (Or.inl ⟨by rfl, ?_⟩) (by assumption) ?_
                    rotate_left; focus (intro w hSw; (try dsimp only at hSw); go_simp; try (with_reducible rfl); done)
                    try simp only [List.getElem_toArray, List.getElem_cons_zero, List.getElem_cons_succ, Act.put, List.setIfInBounds_toArray, List.set_cons_zero, List.set_cons_succ]
                    refine wpAnyH_take (i := 19) (v := ?_) rfl (by kernel_rfl) (by kernel_rfl) (by kernel_rfl) (fun _ _ _ h => h) (Or.inl ⟨by rfl, ?_⟩) (by assumption) ?_
                    rotate_left; focus (intro w hSw; (try dsimp only at hSw); go_simp; try (with_reducible rfl); done)
                    try simp only [List.getElem_toArray, List.getElem_cons_zero, List.getElem_cons_succ, Act.put, List.setIfInBounds_toArray, List.set_cons_zero, List.set_cons_succ]
                    refine wpAnyH_take (i := 20) (v := ?_) rfl (by kernel_rfl) (by kernel_rfl) (by kernel_rfl) (fun _ _ _ h => h) (Or.inl ⟨by rfl, ?_⟩) (by assumption) ?_
                    rotate_left; focus (intro w hSw; (try dsimp only at hSw); go_simp; try (with_reducible rfl); done)
                    try simp only [List.getElem_toArray, List.getElem_cons_zero, List.getElem_cons_succ, Act.put, List.setIfInBounds_toArray, List.set_cons_zero, List.set_cons_succ]
                    refine wpAnyH_take (i := 21) (v := ?_) rfl (by kernel_rfl) (by kernel_rfl) (by kernel_rfl) (fun _ _ _ h => h) (Or.inl ⟨by rfl, ?_⟩) (by assumption) ?_
                    rotate_left; focus (intro w hSw; (try dsimp only at hSw); go_simp; try (with_reducible rfl); done)
                    try simp only [List.getElem_toArray, List.getElem_cons_zero, List.getElem_cons_succ, Act.put, List.setIfInBounds_toArray, List.set_cons_zero, List.set_cons_succ]
                    refine wpAnyH_ready (rs := [22]) (by kernel_rfl) (by simp) ?_
                    refine AllReadyH.cons rfl (fun K hK => ?_) AllReadyH.nil
                    go_simp
                    refine hK.out _ _ ?_ (fun hHeld => ?_)
                    · (try dsimp only); (first | exact ⟨z1, y1, y2⟩ | exact HZ2.out _ hN.drew | exact HZ2.out _ hN)
                    clear hK K
                    try simp only [List.getElem_toArray, List.getElem_cons_zero, List.getElem_cons_succ, Act.put, List.setIfInBounds_toArray, List.set_cons_zero, List.set_cons_succ]
                    refine wpAnyH_done (by kernel_rfl) ?_ _
                    go_wp2
                    go_roundg (s.size + 1 - (j + 1))
                    case measure => have := HGZ3.out; omega
                    case rel => exact ⟨j + 1, by omega, by omega, rfl, by go_num, hN.drew⟩
                  · have hN := HNX.out true rfl
                    refine wp_region_held_drew (S := (fun w' => w'.cell? ⟨go, i, none⟩ = some (.slice (some ⟨rl, 0, none⟩) (s.size + 1) (s.size + 1)) ∧ w'.cell? ⟨go, m, none⟩ = some (.slice (some ⟨rm, 0, none⟩) (s.size + 1) (s.size + 1)) ∧ w'.cell? ⟨rm, j, none⟩ = some (.bool d))) (by kernel_rfl) ?_ (fun hHeld => ?_)
                    · (try dsimp only); (first | exact ⟨z1, y1, y2⟩ | exact HZ2.out _ hN.drew | exact HZ2.out _ hN)

                    refine wpAnyH_take (i := 0) (v := ?_) rfl (by kernel_rfl) (by kernel_rfl) (by kernel_rfl) (fun _ _ _ h => h) (Or.inl ⟨by rfl, ?_⟩) (by assumption) ?_
                    rotate_left; focus (intro w hSw; (try dsimp only at hSw); go_simp; try (with_reducible rfl); done)
                    try simp only [List.getElem_toArray, List.getElem_cons_zero, List.getElem_cons_succ, Act.put, List.setIfInBounds_toArray, List.set_cons_zero, List.set_cons_succ]
                    refine wpAnyH_take (i := 1) (v := ?_) rfl (by kernel_rfl) (by kernel_rfl) (by kernel_rfl) (fun _ _ _ h => h) (Or.inl ⟨by rfl, ?_⟩) (by assumption) ?_
                    rotate_left; focus (intro w hSw; (try dsimp only at hSw); go_simp; try (with_reducible rfl); done)
                    try simp only [List.getElem_toArray, List.getElem_cons_zero, List.getElem_cons_succ, Act.put, List.setIfInBounds_toArray, List.set_cons_zero, List.set_cons_succ]
                    refine wpAnyH_take (i := 2) (v := ?_) rfl (by kernel_rfl) (by kernel_rfl) (by kernel_rfl) (fun _ _ _ h => h) (Or.inl ⟨by rfl, ?_⟩) (by assumption) ?_
                    rotate_left; focus (intro w hSw; (try dsimp only at hSw); go_simp; try (with_reducible rfl); done)
                    try simp only [List.getElem_toArray, List.getElem_cons_zero, List.getElem_cons_succ, Act.put, List.setIfInBounds_toArray, List.set_cons_zero, List.set_cons_succ]
                    refine wpAnyH_take (i := 3) (v := ?_) rfl (by kernel_rfl) (by kernel_rfl) (by kernel_rfl) (fun _ _ _ h => h) (Or.inl ⟨by rfl, ?_⟩) (by assumption) ?_
                    rotate_left; focus (intro w hSw; (try dsimp only at hSw); go_simp; try (with_reducible rfl); done)
                    try simp only [List.getElem_toArray, List.getElem_cons_zero, List.getElem_cons_succ, Act.put, List.setIfInBounds_toArray, List.set_cons_zero, List.set_cons_succ]
                    refine wpAnyH_take (i := 4) (v := ?_) rfl (by kernel_rfl) (by kernel_rfl) (by kernel_rfl) (fun _ _ _ h => h) (Or.inl ⟨by rfl, ?_⟩) (by assumption) ?_
                    rotate_left; focus (intro w hSw; (try dsimp only at hSw); go_simp; try (with_reducible rfl); done)
                    try simp only [List.getElem_toArray, List.getElem_cons_zero, List.getElem_cons_succ, Act.put, List.setIfInBounds_toArray, List.set_cons_zero, List.set_cons_succ]
                    refine wpAnyH_take (i := 5) (v := ?_) rfl (by kernel_rfl) (by kernel_rfl) (by kernel_rfl) (fun _ _ _ h => h) (Or.inl ⟨by rfl, ?_⟩) (by assumption) ?_
                    rotate_left; focus (intro w hSw; (try dsimp only at hSw); go_simp; try (with_reducible rfl); done)
                    try simp only [List.getElem_toArray, List.getElem_cons_zero, List.getElem_cons_succ, Act.put, List.setIfInBounds_toArray, List.set_cons_zero, List.set_cons_succ]
                    refine wpAnyH_take (i := 6) (v := ?_) rfl (by kernel_rfl) (by kernel_rfl) (by kernel_rfl) (fun _ _ _ h => h) (Or.inl ⟨by rfl, ?_⟩) (by assumption) ?_
                    rotate_left; focus (intro w hSw; (try dsimp only at hSw); go_simp; try (with_reducible rfl); done)
                    try simp only [List.getElem_toArray, List.getElem_cons_zero, List.getElem_cons_succ, Act.put, List.setIfInBounds_toArray, List.set_cons_zero, List.set_cons_succ]
                    refine wpAnyH_take (i := 7) (v := ?_) rfl (by kernel_rfl) (by kernel_rfl) (by kernel_rfl) (fun _ _ _ h => h) (Or.inl ⟨by rfl, ?_⟩) (by assumption) ?_
                    rotate_left; focus (intro w hSw; (try dsimp only at hSw); go_simp; try (with_reducible rfl); done)
                    try simp only [List.getElem_toArray, List.getElem_cons_zero, List.getElem_cons_succ, Act.put, List.setIfInBounds_toArray, List.set_cons_zero, List.set_cons_succ]
                    refine wpAnyH_take (i := 8) (v := ?_) rfl (by kernel_rfl) (by kernel_rfl) (by kernel_rfl) (fun _ _ _ h => h) (Or.inl ⟨by rfl, ?_⟩) (by assumption) ?_
                    rotate_left; focus (intro w hSw; (try dsimp only at hSw); go_simp; try (with_reducible rfl); done)
                    try simp only [List.getElem_toArray, List.getElem_cons_zero, List.getElem_cons_succ, Act.put, List.setIfInBounds_toArray, List.set_cons_zero, List.set_cons_succ]
                    refine wpAnyH_take (i := 9) (v := ?_) rfl (by kernel_rfl) (by kernel_rfl) (by kernel_rfl) (fun _ _ _ h => h) (Or.inl ⟨by rfl, ?_⟩) (by assumption) ?_
                    rotate_left; focus (intro w hSw; (try dsimp only at hSw); go_simp; try (with_reducible rfl); done)
                    try simp only [List.getElem_toArray, List.getElem_cons_zero, List.getElem_cons_succ, Act.put, List.setIfInBounds_toArray, List.set_cons_zero, List.set_cons_succ]
                    refine wpAnyH_take (i := 10) (v := ?_) rfl (by kernel_rfl) (by kernel_rfl) (by kernel_rfl) (fun _ _ _ h => h) (Or.inl ⟨by rfl, ?_⟩) (by assumption) ?_
                    rotate_left; focus (intro w hSw; (try dsimp only at hSw); go_simp; try (with_reducible rfl); done)
                    try simp only [List.getElem_toArray, List.getElem_cons_zero, List.getElem_cons_succ, Act.put, List.setIfInBounds_toArray, List.set_cons_zero, List.set_cons_succ]
                    refine wpAnyH_ready (rs := [11]) (by kernel_rfl) (by simp) ?_
                    refine AllReadyH.cons rfl (fun K hK => ?_) AllReadyH.nil
                    go_simp
                    refine hK.out _ _ ?_ (fun hHeld => ?_)
                    · (try dsimp only); (first | exact ⟨z1, y1, y2⟩ | exact HZ2.out _ hN.drew | exact HZ2.out _ hN)
                    clear hK K
                    try simp only [List.getElem_toArray, List.getElem_cons_zero, List.getElem_cons_succ, Act.put, List.setIfInBounds_toArray, List.set_cons_zero, List.set_cons_succ]
                    refine wpAnyH_take (i := 12) (v := ?_) rfl (by kernel_rfl) (by kernel_rfl) (by kernel_rfl) (fun _ _ _ h => h) (Or.inl ⟨by rfl, ?_⟩) (by assumption) ?_
                    rotate_left; focus (intro w hSw; (try dsimp only at hSw); go_simp; try (with_reducible rfl); done)
                    try simp only [List.getElem_toArray, List.getElem_cons_zero, List.getElem_cons_succ, Act.put, List.setIfInBounds_toArray, List.set_cons_zero, List.set_cons_succ]
                    first | (refine wpAnyH_take (i := 13) (v := undef) rfl (by kernel_rfl) (by kernel_rfl) (by kernel_rfl) (fun _ _ _ h => h) (Or.inr ⟨by rfl, rfl⟩) (by assumption) ?_) | (refine wpAnyH_take (i := 13) (v := ?_) rfl (by kernel_rfl) (by kernel_rfl) (by kernel_rfl) (fun _ _ _ h => h) (Or.inl ⟨by rfl, ?_⟩) (by assumption) ?_; rotate_left; focus (intro w hSw; (try dsimp only at hSw); go_simp; try (with_reducible rfl); done))
                    try simp only [List.getElem_toArray, List.getElem_cons_zero, List.getElem_cons_succ, Act.put, List.setIfInBounds_toArray, List.set_cons_zero, List.set_cons_succ]
                    first | (refine wpAnyH_take (i := 14) (v := undef) rfl (by kernel_rfl) (by kernel_rfl) (by kernel_rfl) (fun _ _ _ h => h) (Or.inr ⟨by rfl, rfl⟩) (by assumption) ?_) | (refine wpAnyH_take (i := 14) (v := ?_) rfl (by kernel_rfl) (by kernel_rfl) (by kernel_rfl) (fun _ _ _ h => h) (Or.inl ⟨by rfl, ?_⟩) (by assumption) ?_; rotate_left; focus (intro w hSw; (try dsimp only at hSw); go_simp; try (with_reducible rfl); done))
                    try simp only [List.getElem_toArray, List.getElem_cons_zero, List.getElem_cons_succ, Act.put, List.setIfInBounds_toArray, List.set_cons_zero, List.set_cons_succ]
                    first | (refine wpAnyH_take (i := 15) (v := undef) rfl (by kernel_rfl) (by kernel_rfl) (by kernel_rfl) (fun _ _ _ h => h) (Or.inr ⟨by rfl, rfl⟩) (by assumption) ?_) | (refine wpAnyH_take (i := 15) (v := ?_) rfl (by kernel_rfl) (by kernel_rfl) (by kernel_rfl) (fun _ _ _ h => h) (Or.inl ⟨by rfl, ?_⟩) (by assumption) ?_; rotate_left; focus (intro w hSw; (try dsimp only at hSw); go_simp; try (with_reducible rfl); done))
                    try simp only [List.getElem_toArray, List.getElem_cons_zero, List.getElem_cons_succ, Act.put, List.setIfInBounds_toArray, List.set_cons_zero, List.set_cons_succ]
                    first | (refine wpAnyH_take (i := 16) (v := undef) rfl (by kernel_rfl) (by kernel_rfl) (by kernel_rfl) (fun _ _ _ h => h) (Or.inr ⟨by rfl, rfl⟩) (by assumption) ?_) | (refine wpAnyH_take (i := 16) (v := ?_) rfl (by kernel_rfl) (by kernel_rfl) (by kernel_rfl) (fun _ _ _ h => h) (Or.inl ⟨by rfl, ?_⟩) (by assumption) ?_; rotate_left; focus (intro w hSw; (try dsimp only at hSw); go_simp; try (with_reducible rfl); done))
                    try simp only [List.getElem_toArray, List.getElem_cons_zero, List.getElem_cons_succ, Act.put, List.setIfInBounds_toArray, List.set_cons_zero, List.set_cons_succ]
                    first | (refine wpAnyH_take (i := 17) (v := undef) rfl (by kernel_rfl) (by kernel_rfl) (by kernel_rfl) (fun _ _ _ h => h) (Or.inr ⟨by rfl, rfl⟩) (by assumption) ?_) | (refine wpAnyH_take (i := 17) (v := ?_) rfl (by kernel_rfl) (by kernel_rfl) (by kernel_rfl) (fun _ _ _ h => h) (Or.inl ⟨by rfl, ?_⟩) (by assumption) ?_; rotate_left; focus (intro w hSw; (try dsimp only at hSw); go_simp; try (with_reducible rfl); done))
                    try simp only [List.getElem_toArray, List.getElem_cons_zero, List.getElem_cons_succ, Act.put, List.setIfInBounds_toArray, List.set_cons_zero, List.set_cons_succ]
                    first | (refine wpAnyH_take (i := 18) (v := undef) rfl (by kernel_rfl) (by kernel_rfl) (by kernel_rfl) (fun _ _ _ h => h) (Or.inr ⟨by rfl, rfl⟩) (by assumption) ?_) | (refine wpAnyH_take (i := 18) (v := ?_) rfl (by kernel_rfl) (by kernel_rfl) (by kernel_rfl) (fun _ _ _ h => h) (Or.inl ⟨by rfl, ?_⟩) (by assumption) ?_; rotate_left; focus (intro w hSw; (try dsimp only at hSw); go_simp; try (with_reducible rfl); done))
                    try simp only [List.getElem_toArray, List.getElem_cons_zero, List.getElem_cons_succ, Act.put, List.setIfInBounds_toArray, List.set_cons_zero, List.set_cons_succ]
                    first | (refine wpAnyH_take (i := 19) (v := undef) rfl (by kernel_rfl) (by kernel_rfl) (by kernel_rfl) (fun _ _ _ h => h) (Or.inr ⟨by rfl, rfl⟩) (by assumption) ?_) | (refine wpAnyH_take (i := 19) (v := ?_) rfl (by kernel_rfl) (by kernel_rfl) (by kernel_rfl) (fun _ _ _ h => h) (Or.inl ⟨by rfl, ?_⟩) (by assumption) ?_; rotate_left; focus (intro w hSw; (try dsimp only at hSw); go_simp; try (with_reducible rfl); done))
                    try simp only [List.getElem_toArray, List.getElem_cons_zero, List.getElem_cons_succ, Act.put, List.setIfInBounds_toArray, List.set_cons_zero, List.set_cons_succ]
                    refine wpAnyH_take (i := 20) (v := ?_) rfl (by kernel_rfl) (by kernel_rfl) (by kernel_rfl) (fun _ _ _ h => h) (Or.inl ⟨by rfl, ?_⟩) (by assumption) ?_
                    rotate_left; focus (intro w hSw; (try dsimp only at hSw); go_simp; try (with_reducible rfl); done)
                    try simp only [List.getElem_toArray, List.getElem_cons_zero, List.getElem_cons_succ, Act.put, List.setIfInBounds_toArray, List.set_cons_zero, List.set_cons_succ]
                    refine wpAnyH_take (i := 21) (v := ?_) rfl (by kernel_rfl) (by kernel_rfl) (by kernel_rfl) (fun _ _ _ h => h) (Or.inl ⟨by rfl, ?_⟩) (by assumption) ?_
                    rotate_left; focus (intro w hSw; (try dsimp only at hSw); go_simp; try (with_reducible rfl); done)
                    try simp only [List.getElem_toArray, List.getElem_cons_zero, List.getElem_cons_succ, Act.put, List.setIfInBounds_toArray, List.set_cons_zero, List.set_cons_succ]
                    refine wpAnyH_ready (rs := [22]) (by kernel_rfl) (by simp) ?_
                    refine AllReadyH.cons rfl (fun K hK => ?_) AllReadyH.nil
                    go_simp
                    refine hK.out _ _ ?_ (fun hHeld => ?_)
                    · (try dsimp only); (first | exact ⟨z1, y1, y2⟩ | exact HZ2.out _ hN.drew | exact HZ2.out _ hN)
                    clear hK K
                    try simp only [List.getElem_toArray, List.getElem_cons_zero, List.getElem_cons_succ, Act.put, List.setIfInBounds_toArray, List.set_cons_zero, List.set_cons_succ]
                    refine wpAnyH_done (by kernel_rfl) ?_ _
                    go_wp2
                    go_roundg (s.size + 1 - (j + 1))
                    case measure => have := HGZ3.out; omega
                    case rel => exact ⟨j + 1, by omega, by omega, rfl, by go_num, hN.drew⟩
                · have hljd : decide ((j : Int) ≤ (s.size : Int)) = false := decide_eq_false (by omega)
                  obtain rfl : j = s.size + 1 := by omega
                  have hge : decide ((s.size : Int) + 1 ≤ (s.size : Int)) = false := decide_eq_false (by omega)
                  go_wp2_with (fail)
                  go_roundg (s.size + 1 - (m + 1))
                  case measure => have := HGZ2.out; omega
                  case rel => exact ⟨m + 1, by omega, by omega, rfl, by go_num, by rw [← Rm.s_inEnd (fun x y h => (HLE.out x y h).2)]; exact hst⟩
          · obtain rfl : m = s.size + 1 := by omega
            have hge : ¬ ((s.size : Int) + 1 ≤ s.size) := by omega
            have hdw : IntKind.i64.wrap ((i : Int) - 1) = (i : Int) - 1 := IntWalk.i64_in _ (by omega)
            rw [HM.out i hlt] at hst
            go_wp2_with (fail)
            go_roundg i
            case measure => have := HGZ.out; omega
            case rel => exact ⟨i, by omega, rfl, by go_num, hst⟩
  · clear HKN
    subst hkd
    obtain ⟨rfl, -, -⟩ := K3.out (by omega)
    have hkN : 0 < kl.length := by omega
    have hkI : (0 : Int) < kl.length := by omega
    have hkN1 : 1 < kl.length := by omega
    have hkI1 : (1 : Int) < kl.length := by omega
    obtain ⟨b00, b01, b02, b03, ax0, cx0, -, e00, e01, e02, e03, e04, e05, hen0⟩ := K4.out 0 (by omega)
    have g01 := HKC.out 0 (by omega)
    have HI0 := Lib.hid (IH.out (kl.getD 0 Rx.nil) #[.int .i64 (kl.getD 0 Rx.nil).kind, .int .u64 b00, .int .u64 b01, .int .u64 b02, .int .u64 b03, .slice ax0 (kl.getD 0 Rx.nil).kids.length cx0] hen0 g01)
    simp only [Nat.zero_mul, Nat.one_mul, Nat.add_zero] at e00 e01 e02 e03 e04 e05
    clear hen0 g01
    obtain ⟨b10, b11, b12, b13, ax1, cx1, -, e10, e11, e12, e13, e14, e15, hen1⟩ := K4.out 1 (by omega)
    have g11 := HKC.out 1 (by omega)
    have HI1 := Lib.hid (IH.out (kl.getD 1 Rx.nil) #[.int .i64 (kl.getD 1 Rx.nil).kind, .int .u64 b10, .int .u64 b11, .int .u64 b12, .int .u64 b13, .slice ax1 (kl.getD 1 Rx.nil).kids.length cx1] hen1 g11)
    simp only [Nat.zero_mul, Nat.one_mul, Nat.add_zero] at e10 e11 e12 e13 e14 e15
    clear hen1 g11
    have hfin := HCAT.out rfl
    clear HEQ HNON HBY HCAT HOR HMID HLE HZ hkl
    generalize (kl.getD 0 Rx.nil).kind = kk0 at *
    generalize (kl.getD 0 Rx.nil).kids.length = kn0 at *
    generalize kl.getD 0 Rx.nil = kid0 at *
    have e00 := Lib.hid e00
    have e01 := Lib.hid e01
    have e02 := Lib.hid e02
    have e03 := Lib.hid e03
    have e04 := Lib.hid e04
    have e05 := Lib.hid e05
    generalize (kl.getD 1 Rx.nil).kind = kk1 at *
    generalize (kl.getD 1 Rx.nil).kids.length = kn1 at *
    generalize kl.getD 1 Rx.nil = kid1 at *
    have e10 := Lib.hid e10
    have e11 := Lib.hid e11
    have e12 := Lib.hid e12
    have e13 := Lib.hid e13
    have e14 := Lib.hid e14
    have e15 := Lib.hid e15
    have hbe := fun ga gb ra rb h1 h2 μ W h => rBehind_any s.size hs (Rm.tb s.size (Rm.bt s) f kid0) (Rm.tb s.size (Rm.bt s) f kid1) ga gb ra rb h1 h2 w0 W μ h
    rw [hfin] at hbe
    have HBE := Lib.hid hbe
    clear hbe hfin
    go_wp2_with (fail)
    clear n0
    have HN := Lib.hid hst.drew
    clear hst
    refine wp_region_held_drew (S := (fun w' => w'.cell? ⟨W.heap.size, 5, none⟩ = some (.slice (some ⟨bk, ok, none⟩) kl.length ck) ∧ w'.cell? ⟨bk, ok, none⟩ = some (.int .i64 kk0) ∧ w'.cell? ⟨bk, ok + 1, none⟩ = some (.int .u64 b00) ∧ w'.cell? ⟨bk, ok + 2, none⟩ = some (.int .u64 b01) ∧ w'.cell? ⟨bk, ok + 3, none⟩ = some (.int .u64 b02) ∧ w'.cell? ⟨bk, ok + 4, none⟩ = some (.int .u64 b03) ∧ w'.cell? ⟨bk, ok + 5, none⟩ = some (.slice ax0 kn0 cx0) ∧ w'.cell? ⟨bk, ok + 6, none⟩ = some (.int .i64 kk1) ∧ w'.cell? ⟨bk, ok + 6 + 1, none⟩ = some (.int .u64 b10) ∧ w'.cell? ⟨bk, ok + 6 + 2, none⟩ = some (.int .u64 b11) ∧ w'.cell? ⟨bk, ok + 6 + 3, none⟩ = some (.int .u64 b12) ∧ w'.cell? ⟨bk, ok + 6 + 4, none⟩ = some (.int .u64 b13) ∧ w'.cell? ⟨bk, ok + 6 + 5, none⟩ = some (.slice ax1 kn1 cx1))) (by kernel_rfl) ?_ (fun hHeld => ?_)
    · (try dsimp only); (first | exact ⟨(HN.out.nth 1 rfl).celAt (i := 5) rfl, bkeep HN.out.bel e00.out, bkeep HN.out.bel e01.out, bkeep HN.out.bel e02.out, bkeep HN.out.bel e03.out, bkeep HN.out.bel e04.out, bkeep HN.out.bel e05.out, bkeep HN.out.bel e10.out, bkeep HN.out.bel e11.out, bkeep HN.out.bel e12.out, bkeep HN.out.bel e13.out, bkeep HN.out.bel e14.out, bkeep HN.out.bel e15.out⟩ | exact ⟨(HN.out.nth 2 rfl).celAt (i := 5) rfl, bkeep HN.out.bel e00.out, bkeep HN.out.bel e01.out, bkeep HN.out.bel e02.out, bkeep HN.out.bel e03.out, bkeep HN.out.bel e04.out, bkeep HN.out.bel e05.out, bkeep HN.out.bel e10.out, bkeep HN.out.bel e11.out, bkeep HN.out.bel e12.out, bkeep HN.out.bel e13.out, bkeep HN.out.bel e14.out, bkeep HN.out.bel e15.out⟩ | exact ⟨(HN.out.nth 3 rfl).celAt (i := 5) rfl, bkeep HN.out.bel e00.out, bkeep HN.out.bel e01.out, bkeep HN.out.bel e02.out, bkeep HN.out.bel e03.out, bkeep HN.out.bel e04.out, bkeep HN.out.bel e05.out, bkeep HN.out.bel e10.out, bkeep HN.out.bel e11.out, bkeep HN.out.bel e12.out, bkeep HN.out.bel e13.out, bkeep HN.out.bel e14.out, bkeep HN.out.bel e15.out⟩ | exact ⟨(HN.out.nth 4 rfl).celAt (i := 5) rfl, bkeep HN.out.bel e00.out, bkeep HN.out.bel e01.out, bkeep HN.out.bel e02.out, bkeep HN.out.bel e03.out, bkeep HN.out.bel e04.out, bkeep HN.out.bel e05.out, bkeep HN.out.bel e10.out, bkeep HN.out.bel e11.out, bkeep HN.out.bel e12.out, bkeep HN.out.bel e13.out, bkeep HN.out.bel e14.out, bkeep HN.out.bel e15.out⟩)

    refine wpAnyH_take (i := 0) (v := ?_) rfl (by kernel_rfl) (by kernel_rfl) (by kernel_rfl) (fun _ _ _ h => h) (Or.inl ⟨by rfl, ?_⟩) (by assumption) ?_
    rotate_left; focus (intro w hSw; (try dsimp only at hSw); go_simp; try (with_reducible rfl); done)
    try simp only [List.getElem_toArray, List.getElem_cons_zero, List.getElem_cons_succ, Act.put, List.setIfInBounds_toArray, List.set_cons_zero, List.set_cons_succ]
    refine wpAnyH_take (i := 1) (v := ?_) rfl (by kernel_rfl) (by kernel_rfl) (by kernel_rfl) (fun _ _ _ h => h) (Or.inl ⟨by rfl, ?_⟩) (by assumption) ?_
    rotate_left; focus (intro w hSw; (try dsimp only at hSw); go_simp; try (with_reducible rfl); done)
    try simp only [List.getElem_toArray, List.getElem_cons_zero, List.getElem_cons_succ, Act.put, List.setIfInBounds_toArray, List.set_cons_zero, List.set_cons_succ]
    refine wpAnyH_take (i := 2) (v := ?_) rfl (by kernel_rfl) (by kernel_rfl) (by kernel_rfl) (fun _ _ _ h => h) (Or.inl ⟨by rfl, ?_⟩) (by assumption) ?_
    rotate_left; focus (intro w hSw; (try dsimp only at hSw); go_simp; try (with_reducible rfl); done)
    try simp only [List.getElem_toArray, List.getElem_cons_zero, List.getElem_cons_succ, Act.put, List.setIfInBounds_toArray, List.set_cons_zero, List.set_cons_succ]
    refine wpAnyH_take (i := 3) (v := ?_) rfl (by kernel_rfl) (by kernel_rfl) (by kernel_rfl) (fun _ _ _ h => h) (Or.inl ⟨by rfl, ?_⟩) (by assumption) ?_
    rotate_left; focus (intro w hSw; (try dsimp only at hSw); go_simp; try (with_reducible rfl); done)
    try simp only [List.getElem_toArray, List.getElem_cons_zero, List.getElem_cons_succ, Act.put, List.setIfInBounds_toArray, List.set_cons_zero, List.set_cons_succ]
    refine wpAnyH_take (i := 4) (v := ?_) rfl (by kernel_rfl) (by kernel_rfl) (by kernel_rfl) (fun _ _ _ h => h) (Or.inl ⟨by rfl, ?_⟩) (by assumption) ?_
    rotate_left; focus (intro w hSw; (try dsimp only at hSw); go_simp; try (with_reducible rfl); done)
    try simp only [List.getElem_toArray, List.getElem_cons_zero, List.getElem_cons_succ, Act.put, List.setIfInBounds_toArray, List.set_cons_zero, List.set_cons_succ]
    refine wpAnyH_take (i := 6) (v := ?_) rfl (by kernel_rfl) (by kernel_rfl) (by kernel_rfl) (fun _ _ _ h => h) (Or.inl ⟨by rfl, ?_⟩) (by assumption) ?_
    rotate_left; focus (intro w hSw; (try dsimp only at hSw); go_simp; try (with_reducible rfl); done)
    try simp only [List.getElem_toArray, List.getElem_cons_zero, List.getElem_cons_succ, Act.put, List.setIfInBounds_toArray, List.set_cons_zero, List.set_cons_succ]
    refine wpAnyH_take (i := 7) (v := ?_) rfl (by kernel_rfl) (by kernel_rfl) (by kernel_rfl) (fun _ _ _ h => h) (Or.inl ⟨by rfl, ?_⟩) (by assumption) ?_
    rotate_left; focus (intro w hSw; (try dsimp only at hSw); go_simp; try (with_reducible rfl); done)
    try simp only [List.getElem_toArray, List.getElem_cons_zero, List.getElem_cons_succ, Act.put, List.setIfInBounds_toArray, List.set_cons_zero, List.set_cons_succ]
    refine wpAnyH_take (i := 8) (v := ?_) rfl (by kernel_rfl) (by kernel_rfl) (by kernel_rfl) (fun _ _ _ h => h) (Or.inl ⟨by rfl, ?_⟩) (by assumption) ?_
    rotate_left; focus (intro w hSw; (try dsimp only at hSw); go_simp; try (with_reducible rfl); done)
    try simp only [List.getElem_toArray, List.getElem_cons_zero, List.getElem_cons_succ, Act.put, List.setIfInBounds_toArray, List.set_cons_zero, List.set_cons_succ]
    refine wpAnyH_take (i := 9) (v := ?_) rfl (by kernel_rfl) (by kernel_rfl) (by kernel_rfl) (fun _ _ _ h => h) (Or.inl ⟨by rfl, ?_⟩) (by assumption) ?_
    rotate_left; focus (intro w hSw; (try dsimp only at hSw); go_simp; try (with_reducible rfl); done)
    try simp only [List.getElem_toArray, List.getElem_cons_zero, List.getElem_cons_succ, Act.put, List.setIfInBounds_toArray, List.set_cons_zero, List.set_cons_succ]
    refine wpAnyH_take (i := 10) (v := ?_) rfl (by kernel_rfl) (by kernel_rfl) (by kernel_rfl) (fun _ _ _ h => h) (Or.inl ⟨by rfl, ?_⟩) (by assumption) ?_
    rotate_left; focus (intro w hSw; (try dsimp only at hSw); go_simp; try (with_reducible rfl); done)
    try simp only [List.getElem_toArray, List.getElem_cons_zero, List.getElem_cons_succ, Act.put, List.setIfInBounds_toArray, List.set_cons_zero, List.set_cons_succ]
    refine wpAnyH_ready (rs := [5]) (by kernel_rfl) (by simp) ?_
    refine AllReadyH.cons rfl (fun K hK => ?_) AllReadyH.nil
    go_simp
    (go_at_call 28; refine (HI0.out _ _ HN.out).mono ?_; intro e w5 hret; obtain ⟨g0, r0, rfl, hr0, hst5⟩ := hret; have HN := Lib.hid hst5; clear hst5)
    refine hK.out _ _ ?_ (fun hHeld => ?_)
    · (try dsimp only); (first | exact ⟨(HN.out.nth 1 rfl).celAt (i := 5) rfl, bkeep HN.out.bel e00.out, bkeep HN.out.bel e01.out, bkeep HN.out.bel e02.out, bkeep HN.out.bel e03.out, bkeep HN.out.bel e04.out, bkeep HN.out.bel e05.out, bkeep HN.out.bel e10.out, bkeep HN.out.bel e11.out, bkeep HN.out.bel e12.out, bkeep HN.out.bel e13.out, bkeep HN.out.bel e14.out, bkeep HN.out.bel e15.out⟩ | exact ⟨(HN.out.nth 2 rfl).celAt (i := 5) rfl, bkeep HN.out.bel e00.out, bkeep HN.out.bel e01.out, bkeep HN.out.bel e02.out, bkeep HN.out.bel e03.out, bkeep HN.out.bel e04.out, bkeep HN.out.bel e05.out, bkeep HN.out.bel e10.out, bkeep HN.out.bel e11.out, bkeep HN.out.bel e12.out, bkeep HN.out.bel e13.out, bkeep HN.out.bel e14.out, bkeep HN.out.bel e15.out⟩ | exact ⟨(HN.out.nth 3 rfl).celAt (i := 5) rfl, bkeep HN.out.bel e00.out, bkeep HN.out.bel e01.out, bkeep HN.out.bel e02.out, bkeep HN.out.bel e03.out, bkeep HN.out.bel e04.out, bkeep HN.out.bel e05.out, bkeep HN.out.bel e10.out, bkeep HN.out.bel e11.out, bkeep HN.out.bel e12.out, bkeep HN.out.bel e13.out, bkeep HN.out.bel e14.out, bkeep HN.out.bel e15.out⟩ | exact ⟨(HN.out.nth 4 rfl).celAt (i := 5) rfl, bkeep HN.out.bel e00.out, bkeep HN.out.bel e01.out, bkeep HN.out.bel e02.out, bkeep HN.out.bel e03.out, bkeep HN.out.bel e04.out, bkeep HN.out.bel e05.out, bkeep HN.out.bel e10.out, bkeep HN.out.bel e11.out, bkeep HN.out.bel e12.out, bkeep HN.out.bel e13.out, bkeep HN.out.bel e14.out, bkeep HN.out.bel e15.out⟩)
    clear hK K
    try simp only [List.getElem_toArray, List.getElem_cons_zero, List.getElem_cons_succ, Act.put, List.setIfInBounds_toArray, List.set_cons_zero, List.set_cons_succ]
    refine wpAnyH_ready (rs := [11]) (by kernel_rfl) (by simp) ?_
    refine AllReadyH.cons rfl (fun K hK => ?_) AllReadyH.nil
    go_simp
    (go_at_call 28; refine (HI1.out _ _ HN.out).mono ?_; intro e w6 hret; obtain ⟨g1, r1, rfl, hr1, hst5⟩ := hret; have HN := Lib.hid hst5; clear hst5)
    refine hK.out _ _ ?_ (fun hHeld => ?_)
    · (try dsimp only); (first | exact ⟨(HN.out.nth 1 rfl).celAt (i := 5) rfl, bkeep HN.out.bel e00.out, bkeep HN.out.bel e01.out, bkeep HN.out.bel e02.out, bkeep HN.out.bel e03.out, bkeep HN.out.bel e04.out, bkeep HN.out.bel e05.out, bkeep HN.out.bel e10.out, bkeep HN.out.bel e11.out, bkeep HN.out.bel e12.out, bkeep HN.out.bel e13.out, bkeep HN.out.bel e14.out, bkeep HN.out.bel e15.out⟩ | exact ⟨(HN.out.nth 2 rfl).celAt (i := 5) rfl, bkeep HN.out.bel e00.out, bkeep HN.out.bel e01.out, bkeep HN.out.bel e02.out, bkeep HN.out.bel e03.out, bkeep HN.out.bel e04.out, bkeep HN.out.bel e05.out, bkeep HN.out.bel e10.out, bkeep HN.out.bel e11.out, bkeep HN.out.bel e12.out, bkeep HN.out.bel e13.out, bkeep HN.out.bel e14.out, bkeep HN.out.bel e15.out⟩ | exact ⟨(HN.out.nth 3 rfl).celAt (i := 5) rfl, bkeep HN.out.bel e00.out, bkeep HN.out.bel e01.out, bkeep HN.out.bel e02.out, bkeep HN.out.bel e03.out, bkeep HN.out.bel e04.out, bkeep HN.out.bel e05.out, bkeep HN.out.bel e10.out, bkeep HN.out.bel e11.out, bkeep HN.out.bel e12.out, bkeep HN.out.bel e13.out, bkeep HN.out.bel e14.out, bkeep HN.out.bel e15.out⟩ | exact ⟨(HN.out.nth 4 rfl).celAt (i := 5) rfl, bkeep HN.out.bel e00.out, bkeep HN.out.bel e01.out, bkeep HN.out.bel e02.out, bkeep HN.out.bel e03.out, bkeep HN.out.bel e04.out, bkeep HN.out.bel e05.out, bkeep HN.out.bel e10.out, bkeep HN.out.bel e11.out, bkeep HN.out.bel e12.out, bkeep HN.out.bel e13.out, bkeep HN.out.bel e14.out, bkeep HN.out.bel e15.out⟩)
    clear hK K
    try simp only [List.getElem_toArray, List.getElem_cons_zero, List.getElem_cons_succ, Act.put, List.setIfInBounds_toArray, List.set_cons_zero, List.set_cons_succ]
    refine wpAnyH_ready (rs := [12]) (by kernel_rfl) (by simp) ?_
    refine AllReadyH.cons rfl (fun K hK => ?_) AllReadyH.nil
    go_simp
    (go_at_call 65; refine (HBE.out _ _ _ _ hr0 hr1 _ _ HN.out.get2).mono ?_; intro e w7 hret; obtain ⟨g7, r7, rfl, hr7, hst7⟩ := hret; have HN := Lib.hid hst7; clear hst7)
    refine hK.out _ _ ?_ (fun hHeld => ?_)
    · (try dsimp only); (first | exact ⟨(HN.out.nth 1 rfl).celAt (i := 5) rfl, bkeep HN.out.bel e00.out, bkeep HN.out.bel e01.out, bkeep HN.out.bel e02.out, bkeep HN.out.bel e03.out, bkeep HN.out.bel e04.out, bkeep HN.out.bel e05.out, bkeep HN.out.bel e10.out, bkeep HN.out.bel e11.out, bkeep HN.out.bel e12.out, bkeep HN.out.bel e13.out, bkeep HN.out.bel e14.out, bkeep HN.out.bel e15.out⟩ | exact ⟨(HN.out.nth 2 rfl).celAt (i := 5) rfl, bkeep HN.out.bel e00.out, bkeep HN.out.bel e01.out, bkeep HN.out.bel e02.out, bkeep HN.out.bel e03.out, bkeep HN.out.bel e04.out, bkeep HN.out.bel e05.out, bkeep HN.out.bel e10.out, bkeep HN.out.bel e11.out, bkeep HN.out.bel e12.out, bkeep HN.out.bel e13.out, bkeep HN.out.bel e14.out, bkeep HN.out.bel e15.out⟩ | exact ⟨(HN.out.nth 3 rfl).celAt (i := 5) rfl, bkeep HN.out.bel e00.out, bkeep HN.out.bel e01.out, bkeep HN.out.bel e02.out, bkeep HN.out.bel e03.out, bkeep HN.out.bel e04.out, bkeep HN.out.bel e05.out, bkeep HN.out.bel e10.out, bkeep HN.out.bel e11.out, bkeep HN.out.bel e12.out, bkeep HN.out.bel e13.out, bkeep HN.out.bel e14.out, bkeep HN.out.bel e15.out⟩ | exact ⟨(HN.out.nth 4 rfl).celAt (i := 5) rfl, bkeep HN.out.bel e00.out, bkeep HN.out.bel e01.out, bkeep HN.out.bel e02.out, bkeep HN.out.bel e03.out, bkeep HN.out.bel e04.out, bkeep HN.out.bel e05.out, bkeep HN.out.bel e10.out, bkeep HN.out.bel e11.out, bkeep HN.out.bel e12.out, bkeep HN.out.bel e13.out, bkeep HN.out.bel e14.out, bkeep HN.out.bel e15.out⟩)
    clear hK K
    try simp only [List.getElem_toArray, List.getElem_cons_zero, List.getElem_cons_succ, Act.put, List.setIfInBounds_toArray, List.set_cons_zero, List.set_cons_succ]
    refine wpAnyH_take (i := 13) (v := ?_) rfl (by kernel_rfl) (by kernel_rfl) (by kernel_rfl) (fun _ _ _ h => h) (Or.inl ⟨by rfl, ?_⟩) (by assumption) ?_
    rotate_left; focus (intro w hSw; (try dsimp only at hSw); go_simp; try (with_reducible rfl); done)
    try simp only [List.getElem_toArray, List.getElem_cons_zero, List.getElem_cons_succ, Act.put, List.setIfInBounds_toArray, List.set_cons_zero, List.set_cons_succ]
    refine wpAnyH_done (by kernel_rfl) ?_ _
    go_wp2
    go_ret
    exact ⟨g7, r7, rfl, hr7, HN.out.pick [0] 5 rfl rfl⟩
  · clear HKN
    subst hkd
    obtain ⟨rfl, -, -⟩ := K3.out (by omega)
    have hkN : 0 < kl.length := by omega
    have hkI : (0 : Int) < kl.length := by omega
    have hkN1 : 1 < kl.length := by omega
    have hkI1 : (1 : Int) < kl.length := by omega
    obtain ⟨b00, b01, b02, b03, ax0, cx0, -, e00, e01, e02, e03, e04, e05, hen0⟩ := K4.out 0 (by omega)
    have g01 := HKC.out 0 (by omega)
    have HI0 := Lib.hid (IH.out (kl.getD 0 Rx.nil) #[.int .i64 (kl.getD 0 Rx.nil).kind, .int .u64 b00, .int .u64 b01, .int .u64 b02, .int .u64 b03, .slice ax0 (kl.getD 0 Rx.nil).kids.length cx0] hen0 g01)
    simp only [Nat.zero_mul, Nat.one_mul, Nat.add_zero] at e00 e01 e02 e03 e04 e05
    clear hen0 g01
    obtain ⟨b10, b11, b12, b13, ax1, cx1, -, e10, e11, e12, e13, e14, e15, hen1⟩ := K4.out 1 (by omega)
    have g11 := HKC.out 1 (by omega)
    have HI1 := Lib.hid (IH.out (kl.getD 1 Rx.nil) #[.int .i64 (kl.getD 1 Rx.nil).kind, .int .u64 b10, .int .u64 b11, .int .u64 b12, .int .u64 b13, .slice ax1 (kl.getD 1 Rx.nil).kids.length cx1] hen1 g11)
    simp only [Nat.zero_mul, Nat.one_mul, Nat.add_zero] at e10 e11 e12 e13 e14 e15
    clear hen1 g11
    have hfin := HOR.out rfl
    clear HEQ HNON HBY HCAT HOR HMID HLE HZ hkl
    generalize (kl.getD 0 Rx.nil).kind = kk0 at *
    generalize (kl.getD 0 Rx.nil).kids.length = kn0 at *
    generalize kl.getD 0 Rx.nil = kid0 at *
    have e00 := Lib.hid e00
    have e01 := Lib.hid e01
    have e02 := Lib.hid e02
    have e03 := Lib.hid e03
    have e04 := Lib.hid e04
    have e05 := Lib.hid e05
    generalize (kl.getD 1 Rx.nil).kind = kk1 at *
    generalize (kl.getD 1 Rx.nil).kids.length = kn1 at *
    generalize kl.getD 1 Rx.nil = kid1 at *
    have e10 := Lib.hid e10
    have e11 := Lib.hid e11
    have e12 := Lib.hid e12
    have e13 := Lib.hid e13
    have e14 := Lib.hid e14
    have e15 := Lib.hid e15
    have hl0 := fun x y h => Rm.tb_le (n := s.size) (B := Rm.bt s) (f := f) (t := kid0) (x := x) (y := y) h
    have hl1 := fun x y h => Rm.tb_le (n := s.size) (B := Rm.bt s) (f := f) (t := kid1) (x := x) (y := y) h
    generalize Rm.tb s.size (Rm.bt s) f kid0 = A at *
    generalize Rm.tb s.size (Rm.bt s) f kid1 = B at *
    have HU := Lib.hid (show ∀ x y, (A x y || B x y) = true → x ≤ y ∧ y < s.size + 1 from fun x y h => by
      rcases Bool.or_eq_true_iff.1 h with h | h
      · exact hl0 x y h
      · exact hl1 x y h)
    have HFIN := Lib.hid hfin
    clear hfin hl0 hl1
    go_wp2_with (fail)
    clear n0
    have HN := Lib.hid hst.drew
    clear hst
    refine wp_region_held_drew (S := (fun w' => w'.cell? ⟨W.heap.size, 5, none⟩ = some (.slice (some ⟨bk, ok, none⟩) kl.length ck) ∧ w'.cell? ⟨bk, ok, none⟩ = some (.int .i64 kk0) ∧ w'.cell? ⟨bk, ok + 1, none⟩ = some (.int .u64 b00) ∧ w'.cell? ⟨bk, ok + 2, none⟩ = some (.int .u64 b01) ∧ w'.cell? ⟨bk, ok + 3, none⟩ = some (.int .u64 b02) ∧ w'.cell? ⟨bk, ok + 4, none⟩ = some (.int .u64 b03) ∧ w'.cell? ⟨bk, ok + 5, none⟩ = some (.slice ax0 kn0 cx0) ∧ w'.cell? ⟨bk, ok + 6, none⟩ = some (.int .i64 kk1) ∧ w'.cell? ⟨bk, ok + 6 + 1, none⟩ = some (.int .u64 b10) ∧ w'.cell? ⟨bk, ok + 6 + 2, none⟩ = some (.int .u64 b11) ∧ w'.cell? ⟨bk, ok + 6 + 3, none⟩ = some (.int .u64 b12) ∧ w'.cell? ⟨bk, ok + 6 + 4, none⟩ = some (.int .u64 b13) ∧ w'.cell? ⟨bk, ok + 6 + 5, none⟩ = some (.slice ax1 kn1 cx1))) (by kernel_rfl) ?_ (fun hHeld => ?_)
    · (try dsimp only); (first | exact ⟨(HN.out.nth 1 rfl).celAt (i := 5) rfl, bkeep HN.out.bel e00.out, bkeep HN.out.bel e01.out, bkeep HN.out.bel e02.out, bkeep HN.out.bel e03.out, bkeep HN.out.bel e04.out, bkeep HN.out.bel e05.out, bkeep HN.out.bel e10.out, bkeep HN.out.bel e11.out, bkeep HN.out.bel e12.out, bkeep HN.out.bel e13.out, bkeep HN.out.bel e14.out, bkeep HN.out.bel e15.out⟩ | exact ⟨(HN.out.nth 2 rfl).celAt (i := 5) rfl, bkeep HN.out.bel e00.out, bkeep HN.out.bel e01.out, bkeep HN.out.bel e02.out, bkeep HN.out.bel e03.out, bkeep HN.out.bel e04.out, bkeep HN.out.bel e05.out, bkeep HN.out.bel e10.out, bkeep HN.out.bel e11.out, bkeep HN.out.bel e12.out, bkeep HN.out.bel e13.out, bkeep HN.out.bel e14.out, bkeep HN.out.bel e15.out⟩ | exact ⟨(HN.out.nth 3 rfl).celAt (i := 5) rfl, bkeep HN.out.bel e00.out, bkeep HN.out.bel e01.out, bkeep HN.out.bel e02.out, bkeep HN.out.bel e03.out, bkeep HN.out.bel e04.out, bkeep HN.out.bel e05.out, bkeep HN.out.bel e10.out, bkeep HN.out.bel e11.out, bkeep HN.out.bel e12.out, bkeep HN.out.bel e13.out, bkeep HN.out.bel e14.out, bkeep HN.out.bel e15.out⟩)

    refine wpAnyH_take (i := 0) (v := ?_) rfl (by kernel_rfl) (by kernel_rfl) (by kernel_rfl) (fun _ _ _ h => h) (Or.inl ⟨by rfl, ?_⟩) (by assumption) ?_
    rotate_left; focus (intro w hSw; (try dsimp only at hSw); go_simp; try (with_reducible rfl); done)
    try simp only [List.getElem_toArray, List.getElem_cons_zero, List.getElem_cons_succ, Act.put, List.setIfInBounds_toArray, List.set_cons_zero, List.set_cons_succ]
    refine wpAnyH_take (i := 1) (v := ?_) rfl (by kernel_rfl) (by kernel_rfl) (by kernel_rfl) (fun _ _ _ h => h) (Or.inl ⟨by rfl, ?_⟩) (by assumption) ?_
    rotate_left; focus (intro w hSw; (try dsimp only at hSw); go_simp; try (with_reducible rfl); done)
    try simp only [List.getElem_toArray, List.getElem_cons_zero, List.getElem_cons_succ, Act.put, List.setIfInBounds_toArray, List.set_cons_zero, List.set_cons_succ]
    refine wpAnyH_take (i := 2) (v := ?_) rfl (by kernel_rfl) (by kernel_rfl) (by kernel_rfl) (fun _ _ _ h => h) (Or.inl ⟨by rfl, ?_⟩) (by assumption) ?_
    rotate_left; focus (intro w hSw; (try dsimp only at hSw); go_simp; try (with_reducible rfl); done)
    try simp only [List.getElem_toArray, List.getElem_cons_zero, List.getElem_cons_succ, Act.put, List.setIfInBounds_toArray, List.set_cons_zero, List.set_cons_succ]
    refine wpAnyH_take (i := 3) (v := ?_) rfl (by kernel_rfl) (by kernel_rfl) (by kernel_rfl) (fun _ _ _ h => h) (Or.inl ⟨by rfl, ?_⟩) (by assumption) ?_
    rotate_left; focus (intro w hSw; (try dsimp only at hSw); go_simp; try (with_reducible rfl); done)
    try simp only [List.getElem_toArray, List.getElem_cons_zero, List.getElem_cons_succ, Act.put, List.setIfInBounds_toArray, List.set_cons_zero, List.set_cons_succ]
    refine wpAnyH_take (i := 4) (v := ?_) rfl (by kernel_rfl) (by kernel_rfl) (by kernel_rfl) (fun _ _ _ h => h) (Or.inl ⟨by rfl, ?_⟩) (by assumption) ?_
    rotate_left; focus (intro w hSw; (try dsimp only at hSw); go_simp; try (with_reducible rfl); done)
    try simp only [List.getElem_toArray, List.getElem_cons_zero, List.getElem_cons_succ, Act.put, List.setIfInBounds_toArray, List.set_cons_zero, List.set_cons_succ]
    refine wpAnyH_take (i := 6) (v := ?_) rfl (by kernel_rfl) (by kernel_rfl) (by kernel_rfl) (fun _ _ _ h => h) (Or.inl ⟨by rfl, ?_⟩) (by assumption) ?_
    rotate_left; focus (intro w hSw; (try dsimp only at hSw); go_simp; try (with_reducible rfl); done)
    try simp only [List.getElem_toArray, List.getElem_cons_zero, List.getElem_cons_succ, Act.put, List.setIfInBounds_toArray, List.set_cons_zero, List.set_cons_succ]
    refine wpAnyH_take (i := 7) (v := ?_) rfl (by kernel_rfl) (by kernel_rfl) (by kernel_rfl) (fun _ _ _ h => h) (Or.inl ⟨by rfl, ?_⟩) (by assumption) ?_
    rotate_left; focus (intro w hSw; (try dsimp only at hSw); go_simp; try (with_reducible rfl); done)
    try simp only [List.getElem_toArray, List.getElem_cons_zero, List.getElem_cons_succ, Act.put, List.setIfInBounds_toArray, List.set_cons_zero, List.set_cons_succ]
    refine wpAnyH_take (i := 8) (v := ?_) rfl (by kernel_rfl) (by kernel_rfl) (by kernel_rfl) (fun _ _ _ h => h) (Or.inl ⟨by rfl, ?_⟩) (by assumption) ?_
    rotate_left; focus (intro w hSw; (try dsimp only at hSw); go_simp; try (with_reducible rfl); done)
    try simp only [List.getElem_toArray, List.getElem_cons_zero, List.getElem_cons_succ, Act.put, List.setIfInBounds_toArray, List.set_cons_zero, List.set_cons_succ]
    refine wpAnyH_take (i := 9) (v := ?_) rfl (by kernel_rfl) (by kernel_rfl) (by kernel_rfl) (fun _ _ _ h => h) (Or.inl ⟨by rfl, ?_⟩) (by assumption) ?_
    rotate_left; focus (intro w hSw; (try dsimp only at hSw); go_simp; try (with_reducible rfl); done)
    try simp only [List.getElem_toArray, List.getElem_cons_zero, List.getElem_cons_succ, Act.put, List.setIfInBounds_toArray, List.set_cons_zero, List.set_cons_succ]
    refine wpAnyH_take (i := 10) (v := ?_) rfl (by kernel_rfl) (by kernel_rfl) (by kernel_rfl) (fun _ _ _ h => h) (Or.inl ⟨by rfl, ?_⟩) (by assumption) ?_
    rotate_left; focus (intro w hSw; (try dsimp only at hSw); go_simp; try (with_reducible rfl); done)
    try simp only [List.getElem_toArray, List.getElem_cons_zero, List.getElem_cons_succ, Act.put, List.setIfInBounds_toArray, List.set_cons_zero, List.set_cons_succ]
    refine wpAnyH_ready (rs := [5]) (by kernel_rfl) (by simp) ?_
    refine AllReadyH.cons rfl (fun K hK => ?_) AllReadyH.nil
    go_simp
    (go_at_call 28; refine (HI0.out _ _ HN.out).mono ?_; intro e w5 hret; obtain ⟨g0, r0, rfl, hr0, hst5⟩ := hret; have HN := Lib.hid hst5; clear hst5)
    refine hK.out _ _ ?_ (fun hHeld => ?_)
    · (try dsimp only); (first | exact ⟨(HN.out.nth 1 rfl).celAt (i := 5) rfl, bkeep HN.out.bel e00.out, bkeep HN.out.bel e01.out, bkeep HN.out.bel e02.out, bkeep HN.out.bel e03.out, bkeep HN.out.bel e04.out, bkeep HN.out.bel e05.out, bkeep HN.out.bel e10.out, bkeep HN.out.bel e11.out, bkeep HN.out.bel e12.out, bkeep HN.out.bel e13.out, bkeep HN.out.bel e14.out, bkeep HN.out.bel e15.out⟩ | exact ⟨(HN.out.nth 2 rfl).celAt (i := 5) rfl, bkeep HN.out.bel e00.out, bkeep HN.out.bel e01.out, bkeep HN.out.bel e02.out, bkeep HN.out.bel e03.out, bkeep HN.out.bel e04.out, bkeep HN.out.bel e05.out, bkeep HN.out.bel e10.out, bkeep HN.out.bel e11.out, bkeep HN.out.bel e12.out, bkeep HN.out.bel e13.out, bkeep HN.out.bel e14.out, bkeep HN.out.bel e15.out⟩ | exact ⟨(HN.out.nth 3 rfl).celAt (i := 5) rfl, bkeep HN.out.bel e00.out, bkeep HN.out.bel e01.out, bkeep HN.out.bel e02.out, bkeep HN.out.bel e03.out, bkeep HN.out.bel e04.out, bkeep HN.out.bel e05.out, bkeep HN.out.bel e10.out, bkeep HN.out.bel e11.out, bkeep HN.out.bel e12.out, bkeep HN.out.bel e13.out, bkeep HN.out.bel e14.out, bkeep HN.out.bel e15.out⟩)
    clear hK K
    try simp only [List.getElem_toArray, List.getElem_cons_zero, List.getElem_cons_succ, Act.put, List.setIfInBounds_toArray, List.set_cons_zero, List.set_cons_succ]
    refine wpAnyH_ready (rs := [11]) (by kernel_rfl) (by simp) ?_
    refine AllReadyH.cons rfl (fun K hK => ?_) AllReadyH.nil
    go_simp
    (go_at_call 28; refine (HI1.out _ _ HN.out).mono ?_; intro e w6 hret; obtain ⟨g1, r1, rfl, hr1, hst5⟩ := hret; have HN := Lib.hid hst5; clear hst5)
    refine hK.out _ _ ?_ (fun hHeld => ?_)
    · (try dsimp only); (first | exact ⟨(HN.out.nth 1 rfl).celAt (i := 5) rfl, bkeep HN.out.bel e00.out, bkeep HN.out.bel e01.out, bkeep HN.out.bel e02.out, bkeep HN.out.bel e03.out, bkeep HN.out.bel e04.out, bkeep HN.out.bel e05.out, bkeep HN.out.bel e10.out, bkeep HN.out.bel e11.out, bkeep HN.out.bel e12.out, bkeep HN.out.bel e13.out, bkeep HN.out.bel e14.out, bkeep HN.out.bel e15.out⟩ | exact ⟨(HN.out.nth 2 rfl).celAt (i := 5) rfl, bkeep HN.out.bel e00.out, bkeep HN.out.bel e01.out, bkeep HN.out.bel e02.out, bkeep HN.out.bel e03.out, bkeep HN.out.bel e04.out, bkeep HN.out.bel e05.out, bkeep HN.out.bel e10.out, bkeep HN.out.bel e11.out, bkeep HN.out.bel e12.out, bkeep HN.out.bel e13.out, bkeep HN.out.bel e14.out, bkeep HN.out.bel e15.out⟩ | exact ⟨(HN.out.nth 3 rfl).celAt (i := 5) rfl, bkeep HN.out.bel e00.out, bkeep HN.out.bel e01.out, bkeep HN.out.bel e02.out, bkeep HN.out.bel e03.out, bkeep HN.out.bel e04.out, bkeep HN.out.bel e05.out, bkeep HN.out.bel e10.out, bkeep HN.out.bel e11.out, bkeep HN.out.bel e12.out, bkeep HN.out.bel e13.out, bkeep HN.out.bel e14.out, bkeep HN.out.bel e15.out⟩)
    clear hK K
    try simp only [List.getElem_toArray, List.getElem_cons_zero, List.getElem_cons_succ, Act.put, List.setIfInBounds_toArray, List.set_cons_zero, List.set_cons_succ]
    refine wpAnyH_take (i := 12) (v := ?_) rfl (by kernel_rfl) (by kernel_rfl) (by kernel_rfl) (fun _ _ _ h => h) (Or.inl ⟨by rfl, ?_⟩) (by assumption) ?_
    rotate_left; focus (intro w hSw; (try dsimp only at hSw); go_simp; try (with_reducible rfl); done)
    try simp only [List.getElem_toArray, List.getElem_cons_zero, List.getElem_cons_succ, Act.put, List.setIfInBounds_toArray, List.set_cons_zero, List.set_cons_succ]
    refine wpAnyH_take (i := 13) (v := ?_) rfl (by kernel_rfl) (by kernel_rfl) (by kernel_rfl) (fun _ _ _ h => h) (Or.inl ⟨by rfl, ?_⟩) (by assumption) ?_
    rotate_left; focus (intro w hSw; (try dsimp only at hSw); go_simp; try (with_reducible rfl); done)
    try simp only [List.getElem_toArray, List.getElem_cons_zero, List.getElem_cons_succ, Act.put, List.setIfInBounds_toArray, List.set_cons_zero, List.set_cons_succ]
    refine wpAnyH_done (by kernel_rfl) ?_ _
    have hst := HN.out.pick (ρ := aTab go ro (s.size + 1) (fun _ _ => false) :: aTab g0 r0 (s.size + 1) A :: aTab g1 r1 (s.size + 1) B :: aCel W.heap.size 27 #[.int .i64 5, .int .u64 a0, .int .u64 a1, .int .u64 a2, .int .u64 a3, .slice (some ⟨bk, ok, none⟩) kl.length ck] :: μ) [2, 1, 0, 3] 4 rfl rfl
    have HR0 := Lib.hid hr0
    have HR1 := Lib.hid hr1
    clear HN HI0 HI1 hr0 hr1
    go_wp2_with (fail)
    go_loopg [10] (s.size + 1) (fun gz v10 wr => ∃ i : Nat, i ≤ s.size + 1 ∧ gz = s.size + 1 - i ∧ v10 = .int .i64 i ∧ St w0 wr (aTab go ro (s.size + 1) (Rm.orO (fun x y => A x y || B x y) i) :: aTab g0 r0 (s.size + 1) A :: aTab g1 r1 (s.size + 1) B :: aCel W.heap.size 27 #[.int .i64 5, .int .u64 a0, .int .u64 a1, .int .u64 a2, .int .u64 a3, .slice (some ⟨bk, ok, none⟩) kl.length ck] :: μ))
    case atStart => exact ⟨0, by omega, by omega, rfl, by rw [Rm.or_zero]; exact hst⟩
    case round =>
      clear hst
      obtain ⟨i, hi, hgz, rfl, hst⟩ := hrel
      have HGZ := Lib.hid hgz
      clear hgz
      by_cases hlt : i < s.size + 1
      · have hltI : (i : Int) ≤ s.size := by omega
        have hltJ : (i : Int) < (s.size : Int) + 1 := by omega
        go_wp2_with (fail)
        go_loopg [11] (s.size + 1 - i) (fun gz v11 wr => ∃ j : Nat, i ≤ j ∧ j ≤ s.size + 1 ∧ gz = s.size + 1 - j ∧ v11 = .int .i64 j ∧ St w0 wr (aTab go ro (s.size + 1) (Rm.orI (fun x y => A x y || B x y) i j) :: aTab g0 r0 (s.size + 1) A :: aTab g1 r1 (s.size + 1) B :: aCel W.heap.size 27 #[.int .i64 5, .int .u64 a0, .int .u64 a1, .int .u64 a2, .int .u64 a3, .slice (some ⟨bk, ok, none⟩) kl.length ck] :: μ))
        case atStart => exact ⟨i, by omega, by omega, rfl, rfl, by rw [Rm.or_in (fun x y h => (HU.out x y h).1)]; exact hst⟩
        case round =>
          clear hst
          obtain ⟨j, hij, hj, hgz, rfl, hst⟩ := hrel
          have HGZ3 := Lib.hid hgz
          clear hgz
          by_cases hlj : j < s.size + 1
          · have hljI : (j : Int) ≤ s.size := by omega
            have hljJ : (j : Int) < (s.size : Int) + 1 := by omega
            have z1 := hst.tabRow 0 rfl HRO.out hlt
            have z2 := hst.tabGet 0 rfl HRO.out hlt hlj
            have x1 := hst.tabRow 1 rfl HR0.out hlt
            have x2 := (hst.tabGet 1 rfl HR0.out hlt hlj).1
            have y1 := hst.tabRow 2 rfl HR1.out hlt
            have y2 := (hst.tabGet 2 rfl HR1.out hlt hlj).1
            have HNX := Lib.hid (fun b (h : b = (A i j || B i j)) => (show St w0 (wr.setCell ⟨ro.getD i 0, j, none⟩ (.bool b)) (aTab go ro (s.size + 1) (Rm.orI (fun x y => A x y || B x y) i (j + 1)) :: aTab g0 r0 (s.size + 1) A :: aTab g1 r1 (s.size + 1) B :: aCel W.heap.size 27 #[.int .i64 5, .int .u64 a0, .int .u64 a1, .int .u64 a2, .int .u64 a3, .slice (some ⟨bk, ok, none⟩) kl.length ck] :: μ) from by have h2 := hst.tabSet (j := j) (show i < ro.length by rw [HRO.out]; exact hlt) (A i j || B i j); rw [Rm.or_step (fun x y => A x y || B x y) i j] at h2; rw [h]; exact h2))
            have HZ2 := Lib.hid (fun W' (h : St w0 W' (aTab go ro (s.size + 1) (Rm.orI (fun x y => A x y || B x y) i (j + 1)) :: aTab g0 r0 (s.size + 1) A :: aTab g1 r1 (s.size + 1) B :: aCel W.heap.size 27 #[.int .i64 5, .int .u64 a0, .int .u64 a1, .int .u64 a2, .int .u64 a3, .slice (some ⟨bk, ok, none⟩) kl.length ck] :: μ)) => And.intro (h.tabRow 0 rfl HRO.out hlt) (And.intro (h.tabRow 1 rfl HR0.out hlt) (And.intro (h.tabGet 1 rfl HR0.out hlt hlj).1 (And.intro (h.tabRow 2 rfl HR1.out hlt) (h.tabGet 2 rfl HR1.out hlt hlj).1))))
            obtain ⟨rl, hrl⟩ : ∃ r, ro.getD i 0 = r := ⟨_, rfl⟩
            obtain ⟨ra, hra⟩ : ∃ r, r0.getD i 0 = r := ⟨_, rfl⟩
            obtain ⟨rb, hrb⟩ : ∃ r, r1.getD i 0 = r := ⟨_, rfl⟩
            obtain ⟨c, hc⟩ : ∃ c, A i j = c := ⟨_, rfl⟩
            obtain ⟨d, hd⟩ : ∃ d, B i j = d := ⟨_, rfl⟩
            obtain ⟨z2, zf⟩ := z2
            rw [hrl] at z1 z2 zf HNX HZ2
            rw [hra] at x1 x2 HZ2
            rw [hrb] at y1 y2 HZ2
            rw [hc] at x2 HNX HZ2
            rw [hd] at y2 HNX HZ2
            clear hrl hra hrb hc hd hst
            go_wp2_with (fail)
            cases c
            · have hN := HNX.out d (by cases d <;> rfl)
              refine wp_region_held_drew (S := (fun w' => w'.cell? ⟨go, i, none⟩ = some (.slice (some ⟨rl, 0, none⟩) (s.size + 1) (s.size + 1)) ∧ w'.cell? ⟨g0, i, none⟩ = some (.slice (some ⟨ra, 0, none⟩) (s.size + 1) (s.size + 1)) ∧ w'.cell? ⟨ra, j, none⟩ = some (.bool false) ∧ w'.cell? ⟨g1, i, none⟩ = some (.slice (some ⟨rb, 0, none⟩) (s.size + 1) (s.size + 1)) ∧ w'.cell? ⟨rb, j, none⟩ = some (.bool d))) (by kernel_rfl) ?_ (fun hHeld => ?_)
              · (try dsimp only); (first | exact ⟨z1, x1, x2, y1, y2⟩ | exact HZ2.out _ hN.drew | exact HZ2.out _ hN)

              refine wpAnyH_take (i := 0) (v := ?_) rfl (by kernel_rfl) (by kernel_rfl) (by kernel_rfl) (fun _ _ _ h => h) (Or.inl ⟨by rfl, ?_⟩) (by assumption) ?_
              rotate_left; focus (intro w hSw; (try dsimp only at hSw); go_simp; try (with_reducible rfl); done)
              try simp only [List.getElem_toArray, List.getElem_cons_zero, List.getElem_cons_succ, Act.put, List.setIfInBounds_toArray, List.set_cons_zero, List.set_cons_succ]
              refine wpAnyH_take (i := 1) (v := ?_) rfl (by kernel_rfl) (by kernel_rfl) (by kernel_rfl) (fun _ _ _ h => h) (Or.inl ⟨by rfl, ?_⟩) (by assumption) ?_
              rotate_left; focus (intro w hSw; (try dsimp only at hSw); go_simp; try (with_reducible rfl); done)
              try simp only [List.getElem_toArray, List.getElem_cons_zero, List.getElem_cons_succ, Act.put, List.setIfInBounds_toArray, List.set_cons_zero, List.set_cons_succ]
              refine wpAnyH_take (i := 2) (v := ?_) rfl (by kernel_rfl) (by kernel_rfl) (by kernel_rfl) (fun _ _ _ h => h) (Or.inl ⟨by rfl, ?_⟩) (by assumption) ?_
              rotate_left; focus (intro w hSw; (try dsimp only at hSw); go_simp; try (with_reducible rfl); done)
              try simp only [List.getElem_toArray, List.getElem_cons_zero, List.getElem_cons_succ, Act.put, List.setIfInBounds_toArray, List.set_cons_zero, List.set_cons_succ]
              refine wpAnyH_take (i := 3) (v := ?_) rfl (by kernel_rfl) (by kernel_rfl) (by kernel_rfl) (fun _ _ _ h => h) (Or.inl ⟨by rfl, ?_⟩) (by assumption) ?_
              rotate_left; focus (intro w hSw; (try dsimp only at hSw); go_simp; try (with_reducible rfl); done)
              try simp only [List.getElem_toArray, List.getElem_cons_zero, List.getElem_cons_succ, Act.put, List.setIfInBounds_toArray, List.set_cons_zero, List.set_cons_succ]
              refine wpAnyH_take (i := 4) (v := ?_) rfl (by kernel_rfl) (by kernel_rfl) (by kernel_rfl) (fun _ _ _ h => h) (Or.inl ⟨by rfl, ?_⟩) (by assumption) ?_
              rotate_left; focus (intro w hSw; (try dsimp only at hSw); go_simp; try (with_reducible rfl); done)
              try simp only [List.getElem_toArray, List.getElem_cons_zero, List.getElem_cons_succ, Act.put, List.setIfInBounds_toArray, List.set_cons_zero, List.set_cons_succ]
              refine wpAnyH_take (i := 5) (v := ?_) rfl (by kernel_rfl) (by kernel_rfl) (by kernel_rfl) (fun _ _ _ h => h) (Or.inl ⟨by rfl, ?_⟩) (by assumption) ?_
              rotate_left; focus (intro w hSw; (try dsimp only at hSw); go_simp; try (with_reducible rfl); done)
              try simp only [List.getElem_toArray, List.getElem_cons_zero, List.getElem_cons_succ, Act.put, List.setIfInBounds_toArray, List.set_cons_zero, List.set_cons_succ]
              refine wpAnyH_take (i := 6) (v := ?_) rfl (by kernel_rfl) (by kernel_rfl) (by kernel_rfl) (fun _ _ _ h => h) (Or.inl ⟨by rfl, ?_⟩) (by assumption) ?_
              rotate_left; focus (intro w hSw; (try dsimp only at hSw); go_simp; try (with_reducible rfl); done)
              try simp only [List.getElem_toArray, List.getElem_cons_zero, List.getElem_cons_succ, Act.put, List.setIfInBounds_toArray, List.set_cons_zero, List.set_cons_succ]
              refine wpAnyH_take (i := 7) (v := ?_) rfl (by kernel_rfl) (by kernel_rfl) (by kernel_rfl) (fun _ _ _ h => h) (Or.inl ⟨by rfl, ?_⟩) (by assumption) ?_
              rotate_left; focus (intro w hSw; (try dsimp only at hSw); go_simp; try (with_reducible rfl); done)
              try simp only [List.getElem_toArray, List.getElem_cons_zero, List.getElem_cons_succ, Act.put, List.setIfInBounds_toArray, List.set_cons_zero, List.set_cons_succ]
              refine wpAnyH_take (i := 8) (v := ?_) rfl (by kernel_rfl) (by kernel_rfl) (by kernel_rfl) (fun _ _ _ h => h) (Or.inl ⟨by rfl, ?_⟩) (by assumption) ?_
              rotate_left; focus (intro w hSw; (try dsimp only at hSw); go_simp; try (with_reducible rfl); done)
              try simp only [List.getElem_toArray, List.getElem_cons_zero, List.getElem_cons_succ, Act.put, List.setIfInBounds_toArray, List.set_cons_zero, List.set_cons_succ]
              refine wpAnyH_take (i := 9) (v := ?_) rfl (by kernel_rfl) (by kernel_rfl) (by kernel_rfl) (fun _ _ _ h => h) (Or.inl ⟨by rfl, ?_⟩) (by assumption) ?_
              rotate_left; focus (intro w hSw; (try dsimp only at hSw); go_simp; try (with_reducible rfl); done)
              try simp only [List.getElem_toArray, List.getElem_cons_zero, List.getElem_cons_succ, Act.put, List.setIfInBounds_toArray, List.set_cons_zero, List.set_cons_succ]
              refine wpAnyH_take (i := 10) (v := ?_) rfl (by kernel_rfl) (by kernel_rfl) (by kernel_rfl) (fun _ _ _ h => h) (Or.inl ⟨by rfl, ?_⟩) (by assumption) ?_
              rotate_left; focus (intro w hSw; (try dsimp only at hSw); go_simp; try (with_reducible rfl); done)
              try simp only [List.getElem_toArray, List.getElem_cons_zero, List.getElem_cons_succ, Act.put, List.setIfInBounds_toArray, List.set_cons_zero, List.set_cons_succ]
              refine wpAnyH_take (i := 11) (v := ?_) rfl (by kernel_rfl) (by kernel_rfl) (by kernel_rfl) (fun _ _ _ h => h) (Or.inl ⟨by rfl, ?_⟩) (by assumption) ?_
              rotate_left; focus (intro w hSw; (try dsimp only at hSw); go_simp; try (with_reducible rfl); done)
              try simp only [List.getElem_toArray, List.getElem_cons_zero, List.getElem_cons_succ, Act.put, List.setIfInBounds_toArray, List.set_cons_zero, List.set_cons_succ]
              refine wpAnyH_take (i := 12) (v := ?_) rfl (by kernel_rfl) (by kernel_rfl) (by kernel_rfl) (fun _ _ _ h => h) (Or.inl ⟨by rfl, ?_⟩) (by assumption) ?_
              rotate_left; focus (intro w hSw; (try dsimp only at hSw); go_simp; try (with_reducible rfl); done)
              try simp only [List.getElem_toArray, List.getElem_cons_zero, List.getElem_cons_succ, Act.put, List.setIfInBounds_toArray, List.set_cons_zero, List.set_cons_succ]
              refine wpAnyH_take (i := 13) (v := ?_) rfl (by kernel_rfl) (by kernel_rfl) (by kernel_rfl) (fun _ _ _ h => h) (Or.inl ⟨by rfl, ?_⟩) (by assumption) ?_
              rotate_left; focus (intro w hSw; (try dsimp only at hSw); go_simp; try (with_reducible rfl); done)
              try simp only [List.getElem_toArray, List.getElem_cons_zero, List.getElem_cons_succ, Act.put, List.setIfInBounds_toArray, List.set_cons_zero, List.set_cons_succ]
              refine wpAnyH_take (i := 14) (v := ?_) rfl (by kernel_rfl) (by kernel_rfl) (by kernel_rfl) (fun _ _ _ h => h) (Or.inl ⟨by rfl, ?_⟩) (by assumption) ?_
              rotate_left; focus (intro w hSw; (try dsimp only at hSw); go_simp; try (with_reducible rfl); done)
              try simp only [List.getElem_toArray, List.getElem_cons_zero, List.getElem_cons_succ, Act.put, List.setIfInBounds_toArray, List.set_cons_zero, List.set_cons_succ]
              refine wpAnyH_take (i := 15) (v := ?_) rfl (by kernel_rfl) (by kernel_rfl) (by kernel_rfl) (fun _ _ _ h => h) (Or.inl ⟨by rfl, ?_⟩) (by assumption) ?_
              rotate_left; focus (intro w hSw; (try dsimp only at hSw); go_simp; try (with_reducible rfl); done)
              try simp only [List.getElem_toArray, List.getElem_cons_zero, List.getElem_cons_succ, Act.put, List.setIfInBounds_toArray, List.set_cons_zero, List.set_cons_succ]
              refine wpAnyH_take (i := 16) (v := ?_) rfl (by kernel_rfl) (by kernel_rfl) (by kernel_rfl) (fun _ _ _ h => h) (Or.inl ⟨by rfl, ?_⟩) (by assumption) ?_
              rotate_left; focus (intro w hSw; (try dsimp only at hSw); go_simp; try (with_reducible rfl); done)
              try simp only [List.getElem_toArray, List.getElem_cons_zero, List.getElem_cons_succ, Act.put, List.setIfInBounds_toArray, List.set_cons_zero, List.set_cons_succ]
              refine wpAnyH_take (i := 17) (v := ?_) rfl (by kernel_rfl) (by kernel_rfl) (by kernel_rfl) (fun _ _ _ h => h) (Or.inl ⟨by rfl, ?_⟩) (by assumption) ?_
              rotate_left; focus (intro w hSw; (try dsimp only at hSw); go_simp; try (with_reducible rfl); done)
              try simp only [List.getElem_toArray, List.getElem_cons_zero, List.getElem_cons_succ, Act.put, List.setIfInBounds_toArray, List.set_cons_zero, List.set_cons_succ]
              refine wpAnyH_take (i := 18) (v := ?_) rfl (by kernel_rfl) (by kernel_rfl) (by kernel_rfl) (fun _ _ _ h => h) (Or.inl ⟨by rfl, ?_⟩) (by assumption) ?_
              rotate_left; focus (intro w hSw; (try dsimp only at hSw); go_simp; try (with_reducible rfl); done)
              try simp only [List.getElem_toArray, List.getElem_cons_zero, List.getElem_cons_succ, Act.put, List.setIfInBounds_toArray, List.set_cons_zero, List.set_cons_succ]
              refine wpAnyH_take (i := 19) (v := ?_) rfl (by kernel_rfl) (by kernel_rfl) (by kernel_rfl) (fun _ _ _ h => h) (Or.inl ⟨by rfl, ?_⟩) (by assumption) ?_
              rotate_left; focus (intro w hSw; (try dsimp only at hSw); go_simp; try (with_reducible rfl); done)
              try simp only [List.getElem_toArray, List.getElem_cons_zero, List.getElem_cons_succ, Act.put, List.setIfInBounds_toArray, List.set_cons_zero, List.set_cons_succ]
              refine wpAnyH_take (i := 20) (v := ?_) rfl (by kernel_rfl) (by kernel_rfl) (by kernel_rfl) (fun _ _ _ h => h) (Or.inl ⟨by rfl, ?_⟩) (by assumption) ?_
              rotate_left; focus (intro w hSw; (try dsimp only at hSw); go_simp; try (with_reducible rfl); done)
              try simp only [List.getElem_toArray, List.getElem_cons_zero, List.getElem_cons_succ, Act.put, List.setIfInBounds_toArray, List.set_cons_zero, List.set_cons_succ]
              refine wpAnyH_take (i := 21) (v := ?_) rfl (by kernel_rfl) (by kernel_rfl) (by kernel_rfl) (fun _ _ _ h => h) (Or.inl ⟨by rfl, ?_⟩) (by assumption) ?_
              rotate_left; focus (intro w hSw; (try dsimp only at hSw); go_simp; try (with_reducible rfl); done)
              try simp only [List.getElem_toArray, List.getElem_cons_zero, List.getElem_cons_succ, Act.put, List.setIfInBounds_toArray, List.set_cons_zero, List.set_cons_succ]
              refine wpAnyH_ready (rs := [22]) (by kernel_rfl) (by simp) ?_
              refine AllReadyH.cons rfl (fun K hK => ?_) AllReadyH.nil
              go_simp
              refine hK.out _ _ ?_ (fun hHeld => ?_)
              · (try dsimp only); (first | exact ⟨z1, x1, x2, y1, y2⟩ | exact HZ2.out _ hN.drew | exact HZ2.out _ hN)
              clear hK K
              try simp only [List.getElem_toArray, List.getElem_cons_zero, List.getElem_cons_succ, Act.put, List.setIfInBounds_toArray, List.set_cons_zero, List.set_cons_succ]
              refine wpAnyH_done (by kernel_rfl) ?_ _
              go_wp2
              go_roundg (s.size + 1 - (j + 1))
              case measure => have := HGZ3.out; omega
              case rel => exact ⟨j + 1, by omega, by omega, rfl, by go_num, hN.drew⟩
            · have hN := HNX.out true rfl
              refine wp_region_held_drew (S := (fun w' => w'.cell? ⟨go, i, none⟩ = some (.slice (some ⟨rl, 0, none⟩) (s.size + 1) (s.size + 1)) ∧ w'.cell? ⟨g0, i, none⟩ = some (.slice (some ⟨ra, 0, none⟩) (s.size + 1) (s.size + 1)) ∧ w'.cell? ⟨ra, j, none⟩ = some (.bool true) ∧ w'.cell? ⟨g1, i, none⟩ = some (.slice (some ⟨rb, 0, none⟩) (s.size + 1) (s.size + 1)) ∧ w'.cell? ⟨rb, j, none⟩ = some (.bool d))) (by kernel_rfl) ?_ (fun hHeld => ?_)
              · (try dsimp only); (first | exact ⟨z1, x1, x2, y1, y2⟩ | exact HZ2.out _ hN.drew | exact HZ2.out _ hN)

              refine wpAnyH_take (i := 0) (v := ?_) rfl (by kernel_rfl) (by kernel_rfl) (by kernel_rfl) (fun _ _ _ h => h) (Or.inl ⟨by rfl, ?_⟩) (by assumption) ?_
              rotate_left; focus (intro w hSw; (try dsimp only at hSw); go_simp; try (with_reducible rfl); done)
              try simp only [List.getElem_toArray, List.getElem_cons_zero, List.getElem_cons_succ, Act.put, List.setIfInBounds_toArray, List.set_cons_zero, List.set_cons_succ]
              refine wpAnyH_take (i := 1) (v := ?_) rfl (by kernel_rfl) (by kernel_rfl) (by kernel_rfl) (fun _ _ _ h => h) (Or.inl ⟨by rfl, ?_⟩) (by assumption) ?_
              rotate_left; focus (intro w hSw; (try dsimp only at hSw); go_simp; try (with_reducible rfl); done)
              try simp only [List.getElem_toArray, List.getElem_cons_zero, List.getElem_cons_succ, Act.put, List.setIfInBounds_toArray, List.set_cons_zero, List.set_cons_succ]
              refine wpAnyH_take (i := 2) (v := ?_) rfl (by kernel_rfl) (by kernel_rfl) (by kernel_rfl) (fun _ _ _ h => h) (Or.inl ⟨by rfl, ?_⟩) (by assumption) ?_
              rotate_left; focus (intro w hSw; (try dsimp only at hSw); go_simp; try (with_reducible rfl); done)
              try simp only [List.getElem_toArray, List.getElem_cons_zero, List.getElem_cons_succ, Act.put, List.setIfInBounds_toArray, List.set_cons_zero, List.set_cons_succ]
              refine wpAnyH_take (i := 3) (v := ?_) rfl (by kernel_rfl) (by kernel_rfl) (by kernel_rfl) (fun _ _ _ h => h) (Or.inl ⟨by rfl, ?_⟩) (by assumption) ?_
              rotate_left; focus (intro w hSw; (try dsimp only at hSw); go_simp; try (with_reducible rfl); done)
              try simp only [List.getElem_toArray, List.getElem_cons_zero, List.getElem_cons_succ, Act.put, List.setIfInBounds_toArray, List.set_cons_zero, List.set_cons_succ]
              refine wpAnyH_take (i := 4) (v := ?_) rfl (by kernel_rfl) (by kernel_rfl) (by kernel_rfl) (fun _ _ _ h => h) (Or.inl ⟨by rfl, ?_⟩) (by assumption) ?_
              rotate_left; focus (intro w hSw; (try dsimp only at hSw); go_simp; try (with_reducible rfl); done)
              try simp only [List.getElem_toArray, List.getElem_cons_zero, List.getElem_cons_succ, Act.put, List.setIfInBounds_toArray, List.set_cons_zero, List.set_cons_succ]
              refine wpAnyH_take (i := 5) (v := ?_) rfl (by kernel_rfl) (by kernel_rfl) (by kernel_rfl) (fun _ _ _ h => h) (Or.inl ⟨by rfl, ?_⟩) (by assumption) ?_
              rotate_left; focus (intro w hSw; (try dsimp only at hSw); go_simp; try (with_reducible rfl); done)
              try simp only [List.getElem_toArray, List.getElem_cons_zero, List.getElem_cons_succ, Act.put, List.setIfInBounds_toArray, List.set_cons_zero, List.set_cons_succ]
              refine wpAnyH_take (i := 6) (v := ?_) rfl (by kernel_rfl) (by kernel_rfl) (by kernel_rfl) (fun _ _ _ h => h) (Or.inl ⟨by rfl, ?_⟩) (by assumption) ?_
              rotate_left; focus (intro w hSw; (try dsimp only at hSw); go_simp; try (with_reducible rfl); done)
              try simp only [List.getElem_toArray, List.getElem_cons_zero, List.getElem_cons_succ, Act.put, List.setIfInBounds_toArray, List.set_cons_zero, List.set_cons_succ]
              refine wpAnyH_take (i := 7) (v := ?_) rfl (by kernel_rfl) (by kernel_rfl) (by kernel_rfl) (fun _ _ _ h => h) (Or.inl ⟨by rfl, ?_⟩) (by assumption) ?_
              rotate_left; focus (intro w hSw; (try dsimp only at hSw); go_simp; try (with_reducible rfl); done)
              try simp only [List.getElem_toArray, List.getElem_cons_zero, List.getElem_cons_succ, Act.put, List.setIfInBounds_toArray, List.set_cons_zero, List.set_cons_succ]
              refine wpAnyH_take (i := 8) (v := ?_) rfl (by kernel_rfl) (by kernel_rfl) (by kernel_rfl) (fun _ _ _ h => h) (Or.inl ⟨by rfl, ?_⟩) (by assumption) ?_
              rotate_left; focus (intro w hSw; (try dsimp only at hSw); go_simp; try (with_reducible rfl); done)
              try simp only [List.getElem_toArray, List.getElem_cons_zero, List.getElem_cons_succ, Act.put, List.setIfInBounds_toArray, List.set_cons_zero, List.set_cons_succ]
              refine wpAnyH_take (i := 9) (v := ?_) rfl (by kernel_rfl) (by kernel_rfl) (by kernel_rfl) (fun _ _ _ h => h) (Or.inl ⟨by rfl, ?_⟩) (by assumption) ?_
              rotate_left; focus (intro w hSw; (try dsimp only at hSw); go_simp; try (with_reducible rfl); done)
              try simp only [List.getElem_toArray, List.getElem_cons_zero, List.getElem_cons_succ, Act.put, List.setIfInBounds_toArray, List.set_cons_zero, List.set_cons_succ]
              refine wpAnyH_take (i := 10) (v := ?_) rfl (by kernel_rfl) (by kernel_rfl) (by kernel_rfl) (fun _ _ _ h => h) (Or.inl ⟨by rfl, ?_⟩) (by assumption) ?_
              rotate_left; focus (intro w hSw; (try dsimp only at hSw); go_simp; try (with_reducible rfl); done)
              try simp only [List.getElem_toArray, List.getElem_cons_zero, List.getElem_cons_succ, Act.put, List.setIfInBounds_toArray, List.set_cons_zero, List.set_cons_succ]
              refine wpAnyH_take (i := 11) (v := ?_) rfl (by kernel_rfl) (by kernel_rfl) (by kernel_rfl) (fun _ _ _ h => h) (Or.inl ⟨by rfl, ?_⟩) (by assumption) ?_
              rotate_left; focus (intro w hSw; (try dsimp only at hSw); go_simp; try (with_reducible rfl); done)
              try simp only [List.getElem_toArray, List.getElem_cons_zero, List.getElem_cons_succ, Act.put, List.setIfInBounds_toArray, List.set_cons_zero, List.set_cons_succ]
              refine wpAnyH_take (i := 12) (v := ?_) rfl (by kernel_rfl) (by kernel_rfl) (by kernel_rfl) (fun _ _ _ h => h) (Or.inl ⟨by rfl, ?_⟩) (by assumption) ?_
              rotate_left; focus (intro w hSw; (try dsimp only at hSw); go_simp; try (with_reducible rfl); done)
              try simp only [List.getElem_toArray, List.getElem_cons_zero, List.getElem_cons_succ, Act.put, List.setIfInBounds_toArray, List.set_cons_zero, List.set_cons_succ]
              first | (refine wpAnyH_take (i := 13) (v := undef) rfl (by kernel_rfl) (by kernel_rfl) (by kernel_rfl) (fun _ _ _ h => h) (Or.inr ⟨by rfl, rfl⟩) (by assumption) ?_) | (refine wpAnyH_take (i := 13) (v := ?_) rfl (by kernel_rfl) (by kernel_rfl) (by kernel_rfl) (fun _ _ _ h => h) (Or.inl ⟨by rfl, ?_⟩) (by assumption) ?_; rotate_left; focus (intro w hSw; (try dsimp only at hSw); go_simp; try (with_reducible rfl); done))
              try simp only [List.getElem_toArray, List.getElem_cons_zero, List.getElem_cons_succ, Act.put, List.setIfInBounds_toArray, List.set_cons_zero, List.set_cons_succ]
              first | (refine wpAnyH_take (i := 14) (v := undef) rfl (by kernel_rfl) (by kernel_rfl) (by kernel_rfl) (fun _ _ _ h => h) (Or.inr ⟨by rfl, rfl⟩) (by assumption) ?_) | (refine wpAnyH_take (i := 14) (v := ?_) rfl (by kernel_rfl) (by kernel_rfl) (by kernel_rfl) (fun _ _ _ h => h) (Or.inl ⟨by rfl, ?_⟩) (by assumption) ?_; rotate_left; focus (intro w hSw; (try dsimp only at hSw); go_simp; try (with_reducible rfl); done))
              try simp only [List.getElem_toArray, List.getElem_cons_zero, List.getElem_cons_succ, Act.put, List.setIfInBounds_toArray, List.set_cons_zero, List.set_cons_succ]
              first | (refine wpAnyH_take (i := 15) (v := undef) rfl (by kernel_rfl) (by kernel_rfl) (by kernel_rfl) (fun _ _ _ h => h) (Or.inr ⟨by rfl, rfl⟩) (by assumption) ?_) | (refine wpAnyH_take (i := 15) (v := ?_) rfl (by kernel_rfl) (by kernel_rfl) (by kernel_rfl) (fun _ _ _ h => h) (Or.inl ⟨by rfl, ?_⟩) (by assumption) ?_; rotate_left; focus (intro w hSw; (try dsimp only at hSw); go_simp; try (with_reducible rfl); done))
              try simp only [List.getElem_toArray, List.getElem_cons_zero, List.getElem_cons_succ, Act.put, List.setIfInBounds_toArray, List.set_cons_zero, List.set_cons_succ]
              first | (refine wpAnyH_take (i := 16) (v := undef) rfl (by kernel_rfl) (by kernel_rfl) (by kernel_rfl) (fun _ _ _ h => h) (Or.inr ⟨by rfl, rfl⟩) (by assumption) ?_) | (refine wpAnyH_take (i := 16) (v := ?_) rfl (by kernel_rfl) (by kernel_rfl) (by kernel_rfl) (fun _ _ _ h => h) (Or.inl ⟨by rfl, ?_⟩) (by assumption) ?_; rotate_left; focus (intro w hSw; (try dsimp only at hSw); go_simp; try (with_reducible rfl); done))
              try simp only [List.getElem_toArray, List.getElem_cons_zero, List.getElem_cons_succ, Act.put, List.setIfInBounds_toArray, List.set_cons_zero, List.set_cons_succ]
              first | (refine wpAnyH_take (i := 17) (v := undef) rfl (by kernel_rfl) (by kernel_rfl) (by kernel_rfl) (fun _ _ _ h => h) (Or.inr ⟨by rfl, rfl⟩) (by assumption) ?_) | (refine wpAnyH_take (i := 17) (v := ?_) rfl (by kernel_rfl) (by kernel_rfl) (by kernel_rfl) (fun _ _ _ h => h) (Or.inl ⟨by rfl, ?_⟩) (by assumption) ?_; rotate_left; focus (intro w hSw; (try dsimp only at hSw); go_simp; try (with_reducible rfl); done))
              try simp only [List.getElem_toArray, List.getElem_cons_zero, List.getElem_cons_succ, Act.put, List.setIfInBounds_toArray, List.set_cons_zero, List.set_cons_succ]
              first | (refine wpAnyH_take (i := 18) (v := undef) rfl (by kernel_rfl) (by kernel_rfl) (by kernel_rfl) (fun _ _ _ h => h) (Or.inr ⟨by rfl, rfl⟩) (by assumption) ?_) | (refine wpAnyH_take (i := 18) (v := ?_) rfl (by kernel_rfl) (by kernel_rfl) (by kernel_rfl) (fun _ _ _ h => h) (Or.inl ⟨by rfl, ?_⟩) (by assumption) ?_; rotate_left; focus (intro w hSw; (try dsimp only at hSw); go_simp; try (with_reducible rfl); done))
              try simp only [List.getElem_toArray, List.getElem_cons_zero, List.getElem_cons_succ, Act.put, List.setIfInBounds_toArray, List.set_cons_zero, List.set_cons_succ]
              first | (refine wpAnyH_take (i := 19) (v := undef) rfl (by kernel_rfl) (by kernel_rfl) (by kernel_rfl) (fun _ _ _ h => h) (Or.inr ⟨by rfl, rfl⟩) (by assumption) ?_) | (refine wpAnyH_take (i := 19) (v := ?_) rfl (by kernel_rfl) (by kernel_rfl) (by kernel_rfl) (fun _ _ _ h => h) (Or.inl ⟨by rfl, ?_⟩) (by assumption) ?_; rotate_left; focus (intro w hSw; (try dsimp only at hSw); go_simp; try (with_reducible rfl); done))
              try simp only [List.getElem_toArray, List.getElem_cons_zero, List.getElem_cons_succ, Act.put, List.setIfInBounds_toArray, List.set_cons_zero, List.set_cons_succ]
              refine wpAnyH_take (i := 20) (v := ?_) rfl (by kernel_rfl) (by kernel_rfl) (by kernel_rfl) (fun _ _ _ h => h) (Or.inl ⟨by rfl, ?_⟩) (by assumption) ?_
              rotate_left; focus (intro w hSw; (try dsimp only at hSw); go_simp; try (with_reducible rfl); done)
              try simp only [List.getElem_toArray, List.getElem_cons_zero, List.getElem_cons_succ, Act.put, List.setIfInBounds_toArray, List.set_cons_zero, List.set_cons_succ]
              refine wpAnyH_take (i := 21) (v := ?_) rfl (by kernel_rfl) (by kernel_rfl) (by kernel_rfl) (fun _ _ _ h => h) (Or.inl ⟨by rfl, ?_⟩) (by assumption) ?_
              rotate_left; focus (intro w hSw; (try dsimp only at hSw); go_simp; try (with_reducible rfl); done)
              try simp only [List.getElem_toArray, List.getElem_cons_zero, List.getElem_cons_succ, Act.put, List.setIfInBounds_toArray, List.set_cons_zero, List.set_cons_succ]
              refine wpAnyH_ready (rs := [22]) (by kernel_rfl) (by simp) ?_
              refine AllReadyH.cons rfl (fun K hK => ?_) AllReadyH.nil
              go_simp
              refine hK.out _ _ ?_ (fun hHeld => ?_)
              · (try dsimp only); (first | exact ⟨z1, x1, x2, y1, y2⟩ | exact HZ2.out _ hN.drew | exact HZ2.out _ hN)
              clear hK K
              try simp only [List.getElem_toArray, List.getElem_cons_zero, List.getElem_cons_succ, Act.put, List.setIfInBounds_toArray, List.set_cons_zero, List.set_cons_succ]
              refine wpAnyH_done (by kernel_rfl) ?_ _
              go_wp2
              go_roundg (s.size + 1 - (j + 1))
              case measure => have := HGZ3.out; omega
              case rel => exact ⟨j + 1, by omega, by omega, rfl, by go_num, hN.drew⟩
          · obtain rfl : j = s.size + 1 := by omega
            have hge : ¬ ((s.size : Int) + 1 ≤ s.size) := by omega
            go_wp2_with (fail)
            go_roundg (s.size + 1 - (i + 1))
            case measure => have := HGZ.out; omega
            case rel => exact ⟨i + 1, by omega, rfl, by go_num, by rw [← Rm.or_out (fun x y h => (HU.out x y h).2)]; exact hst⟩
      · obtain rfl : i = s.size + 1 := by omega
        have hge : ¬ ((s.size : Int) + 1 ≤ s.size) := by omega
        rw [HFIN.out] at hst
        go_wp2_with (fail)
        go_ret
        exact ⟨go, ro, rfl, HRO.out, hst.pick [0] 4 rfl rfl⟩
end Go.Proofs.YtfelikfppjlcmaaDoor

/-
  Matches of the reference.
-/
namespace Go.Proofs.YtfelikfppjlcmaaDoor
set_option linter.unusedVariables false
set_option linter.unusedSimpArgs false
open Go.ChangeShapes Go.WideShapes Go.ChangeAt Go.RowKit

theorem rSpans_all (w0 : World) (F : Nat → Prop) (hF : ∀ b, F b → b < w0.heap.size) (s : ByteArray) (hs : s.size ≤ 1000) : ∀ f, Rm.SpansF w0 F s f := by
  intro f
  induction f with
  | zero => intro t cs h; exact h.elim
  | succ f ih => exact rSpans_step w0 F hF s hs f ih

set_option maxRecDepth 100000 in
set_option maxHeartbeats 1600000 in
theorem rMatches_any (n : Nat) (t : Rx) (cs : Array Value) (s : ByteArray) (hs : s.size ≤ 1000) (w0 w : World) (hb : Below w0.heap.size w0 w) (F : Nat → Prop) (hF : ∀ b, F b → b < w0.heap.size) (ht : (Rx.enc n).R F w0 cs.toList t) (hg : Rx.good n t) :
    Calls Tryd.prog 9 #[.agg cs, .string s] w fun e w' => e = .returned (.bool (Rm.mt s.size (Rm.bt s) n t 0 s.size)) ∧ Below w.heap.size w w' := by
  have htw : (Rx.enc n).R F w cs.toList t := Enc.mono _ ht (fun _ h => h) (fun b hb' => hb.block b (hF b hb'))
  have hFw : ∀ b, F b → b < w.heap.size := fun b h => Nat.lt_of_lt_of_le (hF b h) hb.size
  clear ht hF hb w0
  obtain ⟨n', hn, vk, hcs, -, hok, hk⟩ := Rx.opened htw
  obtain ⟨a0, a1, a2, a3, hws⟩ := Cs.okFour hok
  have hcs2 : cs = #[.int .i64 t.kind, .int .u64 a0, .int .u64 a1, .int .u64 a2, .int .u64 a3, vk] := by
    apply Array.toList_inj.1
    rw [hcs, Rx.cel, hws]; rfl
  subst hcs2
  obtain ⟨ak, bk, ok, ck, rfl, -, -, -⟩ := Rx.kidsAt hk
  have HST := Lib.hid ((St.init w).alloc #[.int .i64 t.kind, .int .u64 a0, .int .u64 a1, .int .u64 a2, .int .u64 a3, .slice ak t.kids.length ck] 27)
  have HSP := Lib.hid (rSpans_all w F hFw s hs n t _ htw hg)
  have hfin : Rm.tb s.size (Rm.bt s) n t 0 s.size = Rm.mt s.size (Rm.bt s) n t 0 s.size := by simp [Rm.tb]
  obtain ⟨S, hS⟩ : ∃ S, Rm.tb s.size (Rm.bt s) n t = S := ⟨_, rfl⟩
  rw [hS] at HSP hfin
  clear hS htw hFw hcs hok hk hn hws hg
  generalize t.kind = kd at *
  generalize t.kids.length = nk at *
  go_enter Tryd.func9, Tryd.ntmps9
  obtain ⟨y0, y1, y2, y3, y4, y5⟩ := Rx.cel6 HST.out 0 rfl
  go_wp2_with (fail)
  go_at_call 28
  refine (HSP.out _ _ HST.out).mono ?_
  intro e w1 hret
  obtain ⟨g, rs, rfl, hrs, hst⟩ := hret
  have z1 := hst.tabRow 0 rfl hrs (show 0 < s.size + 1 by omega)
  have z2 := (hst.tabGet 0 rfl hrs (show 0 < s.size + 1 by omega) (show s.size < s.size + 1 by omega)).1
  rw [hfin] at z2
  obtain ⟨r, hr⟩ : ∃ r, rs.getD 0 0 = r := ⟨_, rfl⟩
  rw [hr] at z1 z2
  have h0 : (0 : Int) < (s.size : Int) + 1 := by omega
  have h1 : (s.size : Int) < (s.size : Int) + 1 := by omega
  clear y0 y1 y2 y3 y4 y5 HST HSP hr hrs hfin
  have HST := Lib.hid hst
  clear hst
  go_wp2
  go_ret
  exact ⟨rfl, HST.out.bel⟩
end Go.Proofs.YtfelikfppjlcmaaDoor

/-
  Matches of package rex.
-/
namespace Go.Proofs.YtfelikfppjlcmaaDoor
set_option linter.unusedVariables false
set_option linter.unusedSimpArgs false
open Go.ChangeShapes Go.WideShapes Go.ChangeAt Go.RowKit

theorem rxEnds_all (w0 : World) (hT : Tz.Tab w0) (E : Nat → Nat → List Nat) (hE : ∀ i j, Dm.Ok4 (E i j)) (gm gs : Nat) (s : ByteArray) (hs : s.size ≤ 200) (w1 : World) (fp : List Nat) : ∀ f, Rm.EndsF w0 E gm gs s w1 fp f := by
  intro f
  induction f with
  | zero => intro t q cs h; exact h.elim
  | succ f ih => exact rxEnds_step w0 hT E hE gm gs s hs w1 fp f ih
namespace Rm
/-- What Matches answers. -/
def ans (n : Nat) (t : Rx) (s : ByteArray) : Bool × Int := if Rx.err n t = 0 then (if 200 < s.size then (false, 2) else (mt s.size (bt s) n t 0 s.size, 0)) else (false, Rx.err n t)
end Rm

set_option maxRecDepth 100000 in
set_option maxHeartbeats 1600000 in
theorem rexMatches_any (n : Nat) (t : Rx) (cs : Array Value) (s : ByteArray) (hs : s.size ≤ 140737488355328) (w0 w : World) (hb : Below w0.heap.size w0 w) (hT : Tz.Tab w0) (F : Nat → Prop) (hF : ∀ b, F b → b < w0.heap.size) (ht : (Rx.enc n).R F w0 cs.toList t) :
    Calls Tryd.prog 7 #[.agg cs, .string s] w fun e w' => e = .returned (.tuple #[.bool (Rm.ans n t s).1, .int .i64 (Rm.ans n t s).2]) ∧ Below w.heap.size w w' := by
  have htw : (Rx.enc n).R F w cs.toList t := Enc.mono _ ht (fun _ h => h) (fun b hb' => hb.block b (hF b hb'))
  have hTw : Tz.Tab w := fun j hj => bkeep hb (hT j hj)
  have hFw : ∀ b, F b → b < w.heap.size := fun b h => Nat.lt_of_lt_of_le (hF b h) hb.size
  clear ht hT hF hb w0
  obtain ⟨n', hn, vk, hcs, -, hok, hk⟩ := Rx.opened htw
  obtain ⟨a0, a1, a2, a3, hws⟩ := Cs.okFour hok
  have hcs2 : cs = #[.int .i64 t.kind, .int .u64 a0, .int .u64 a1, .int .u64 a2, .int .u64 a3, vk] := by
    apply Array.toList_inj.1
    rw [hcs, Rx.cel, hws]; rfl
  subst hcs2
  obtain ⟨ak, bk, ok, ck, rfl, -, -, -⟩ := Rx.kidsAt hk
  have HST := Lib.hid ((St.init w).alloc #[.int .i64 t.kind, .int .u64 a0, .int .u64 a1, .int .u64 a2, .int .u64 a3, .slice ak t.kids.length ck] 27)
  have HC := Lib.hid (fun W' (h : Below w.heap.size w W') => rexCheck_any F n t _ W' (Enc.mono (Rx.enc n) htw (fun _ h => h) (fun b hb => h.block b (hFw b hb))))
  have HNM := Lib.hid (fun g μ W h1 h2 => number_any w F n t _ 0 g μ W htw h1 h2)
  have HTT := Lib.hid hTw
  have HGD := Lib.hid (fun h => Rx.err_good (f := n) (t := t) h)
  have hag : ∀ K, t.kind = K → True := fun _ _ => trivial
  clear hag htw hTw hFw hcs hok hk hn
  by_cases hE : Rx.err n t = 0
  · obtain ⟨hg, hc⟩ := HGD.out hE
    have hne : ((0 : Int) != 0) = false := rfl
    rw [hE] at HC
    by_cases hl : 200 < s.size
    · have hlI : decide ((s.size : Int) > 200) = true := decide_eq_true (by omega)
      rw [show Rm.ans n t s = (false, 2) by unfold Rm.ans; rw [if_pos hE, if_pos hl]]
      clear HNM HGD hg hc hE
      generalize t.kind = kd at *
      generalize t.kids.length = nk at *
      go_enter Tryd.func7, Tryd.ntmps7
      obtain ⟨y0, y1, y2, y3, y4, y5⟩ := Rx.cel6 HST.out 0 rfl
      go_wp2_with (fail)
      go_at_call 23
      refine (HC.out _ HST.out.bel).mono ?_
      rintro e w1 ⟨rfl, hb1⟩
      have HST := Lib.hid (HST.out.call hb1)
      clear hb1 HC y0 y1 y2 y3 y4 y5
      go_wp2
      go_ret2
      exact ⟨rfl, HST.out.bel⟩
    · have hlI : decide ((s.size : Int) > 200) = false := decide_eq_false (by omega)
      rw [show Rm.ans n t s = (Rm.mt s.size (Rm.bt s) n t 0 s.size, 0) by unfold Rm.ans; rw [if_pos hE, if_neg hl]]
      have hEA := rxEnds_all w HTT.out (Rm.sets s.size (Rm.bt s) n t 0) (Rm.sets_ok s.size (Rm.bt s) n t 0)
      have HHA := Lib.hid (fun W => Cs.phas_words (Rm.en s.size (Rm.bt s) n t 0) (Rm.en_ok n t 0) s.size (by omega) W)
      rw [Rm.en_mem (by omega)] at HHA
      obtain ⟨m, hm⟩ : ∃ m, Rm.mt s.size (Rm.bt s) n t 0 s.size = m := ⟨_, rfl⟩
      rw [hm] at HHA ⊢
      obtain ⟨r0, r1, r2, r3, hr⟩ := Cs.okFour (Rm.en_ok (n := s.size) (B := Rm.bt s) n t 0)
      rw [hr] at HHA
      have HEN := Lib.hid (fun gm gs w1 fp cs' h μ W h2 => (show Calls Tryd.prog 25 #[.pointer (some ⟨gs, 0, none⟩), .agg cs', .int .i64 0] W (fun e w' => e = .returned (.agg #[.int .u64 r0, .int .u64 r1, .int .u64 r2, .int .u64 r3]) ∧ St w w' (Rm.base (Rm.sets s.size (Rm.bt s) n t 0) gm gs s w1 fp μ)) by
        have h3 := hEA gm gs s (by omega) w1 fp n t 0 cs' h hg (by omega) (Rm.sets_fit s.size (Rm.bt s) n t 0) 0 μ W (by omega) h2
        dsimp only at h3
        rw [hr] at h3
        exact h3))
      have HTW := Lib.hid hws
      have hsw : IntKind.u8.wrap (s.size : Int) = (s.size : Int) := IntWalk.u8_in _ (by omega)
      clear hEA hm hr HGD hg hE hws
      have hmm := @run_makeMap Tryd.prog
      go_enter Tryd.func7, Tryd.ntmps7
      obtain ⟨y0, y1, y2, y3, y4, y5⟩ := Rx.cel6 HST.out 0 rfl
      go_wp2_with (fail)
      go_at_call 23
      refine (HC.out _ HST.out.bel).mono ?_
      rintro e w1 ⟨rfl, hb1⟩
      have HST := Lib.hid (HST.out.call hb1)
      clear hb1 HC y0 y1 y2 y3 y4 y5
      have hM := ((HST.out.alloc #[.int .i64 0] 3).memoMake (Rm.sets s.size (Rm.bt s) n t 0)).alloc #[.string s, .map (some (w1.heap.size + 1))] 59
      simp only [World.size_alloc] at hM
      have HST := Lib.hid (show St w _ (aCel w1.heap.size 3 #[.int .i64 ((0 : Nat) : Int)] :: aCel (w1.heap.size + 1 + 1) 59 #[.string s, .map (some (w1.heap.size + 1))] :: aMemo (Rm.sets s.size (Rm.bt s) n t 0) (w1.heap.size + 1) :: [aCel w.heap.size 27 #[.int .i64 t.kind, .int .u64 a0, .int .u64 a1, .int .u64 a2, .int .u64 a3, .slice ak t.kids.length ck]]) from hM.pick [2, 0, 1] 3 rfl rfl)
      clear hM
      obtain ⟨y0, y1, y2, y3, y4, y5⟩ := Rx.cel6 HST.out 3 rfl
      go_wp2_with (fail)
      generalize World.alloc _ _ = w2 at *
      generalize w1.heap.size = g1 at *
      clear y0 y1 y2 y3 y4 y5
      go_at_call 26
      refine (HNM.out _ _ _ (by omega) HST.out).mono ?_
      intro e w4 hret
      obtain ⟨⟨⟨t', b'⟩, v1, v2, fp⟩, hq1, hqk, rfl, hst4⟩ := hret
      obtain ⟨rfl, rfl⟩ := Prod.mk.inj hq1
      clear HST HNM hq1
      have hen := Nm.enc_of (f := n) (F := fun b => b ∈ fp) hqk ((hst4.nth 0 rfl).ok _ (.head _))
      obtain ⟨h0, ⟨x1, l1, c1, h1⟩, x2, l2, c2, h2⟩ := hqk
      dsimp only at h1 h2
      subst h1; subst h2
      have hkv : Nm.kidV ((t', 0), .slice x1 l1 c1, .slice x2 l2 c2, fp) = .agg #[.int .i64 t'.kind, .int .u64 a0, .int .u64 a1, .int .u64 a2, .int .u64 a3, .slice x1 l1 c1, .int .i64 0, .slice x2 l2 c2] := by
        rw [Nm.kidV, Nm.cel, HTW.out]; rfl
      rw [hkv] at hen ⊢
      clear hkv
      have HST := Lib.hid ((hst4.turn (A' := aAs w4 fp) rfl (fun b _ => rfl)).pick [3, 2, 0] 5 rfl rfl)
      have HE2 := Lib.hid (fun μ W h2 => HEN.out (g1 + 1) (g1 + 1 + 1) w4 fp #[.int .i64 t'.kind, .int .u64 a0, .int .u64 a1, .int .u64 a2, .int .u64 a3, .slice x1 l1 c1, .int .i64 0, .slice x2 l2 c2] hen μ W h2)
      clear hst4 HEN hen
      go_wp2_with (fail)
      go_at_call 25
      refine (HE2.out _ _ HST.out).mono ?_
      rintro e w5 ⟨rfl, hst5⟩
      clear HST HE2
      have HST := Lib.hid hst5
      clear hst5
      go_wp2_with (fail)
      go_at_call 24
      refine (HHA.out _).mono ?_
      rintro e w6 ⟨rfl, hb6⟩
      have HST := Lib.hid (HST.out.call hb6)
      clear hb6
      go_wp2
      go_ret2
      exact ⟨rfl, HST.out.bel⟩
  · obtain ⟨E, hEE⟩ : ∃ E, Rx.err n t = E := ⟨_, rfl⟩
    have hne : (E != 0) = true := by rw [bne_iff_ne, ← hEE]; exact hE
    rw [show Rm.ans n t s = (false, E) by unfold Rm.ans; rw [if_neg hE, hEE]]
    rw [hEE] at HC hE
    clear HNM HGD hEE
    generalize t.kind = kd at *
    generalize t.kids.length = nk at *
    go_enter Tryd.func7, Tryd.ntmps7
    obtain ⟨y0, y1, y2, y3, y4, y5⟩ := Rx.cel6 HST.out 0 rfl
    go_wp2_with (fail)
    go_at_call 23
    refine (HC.out _ HST.out.bel).mono ?_
    rintro e w1 ⟨rfl, hb1⟩
    have HST := Lib.hid (HST.out.call hb1)
    clear hb1 HC y0 y1 y2 y3 y4 y5
    go_wp2
    go_ret2
    exact ⟨rfl, HST.out.bel⟩
end Go.Proofs.YtfelikfppjlcmaaDoor

/-
  Rex of the reference: what is wrong with a regular expression.
-/
namespace Go.Proofs.YtfelikfppjlcmaaDoor
set_option linter.unusedVariables false
set_option linter.unusedSimpArgs false
open Go.ChangeShapes Go.WideShapes Go.ChangeAt Go.RowKit

namespace Rx
def kk (k : Int) : Int := if k = 6 then 1 else if k = 4 ∨ k = 5 then 2 else 0
theorem bad_ref (t : Rx) (bz : Bool) (hz : decide (ws t = Dm.zero) = bz) : bad t = (decide (t.kind < 1) || decide (6 < t.kind) || ((t.kids.length : Int) != kk t.kind) || ((t.kind == 3) == bz)) := by
  unfold bad
  rw [hz]
  have hb : decide (t.kind = 3) = (t.kind == 3) := by rw [Bool.eq_iff_iff]; simp
  rw [hb]
  congr 1
  rw [Bool.eq_iff_iff, decide_eq_true_iff]
  simp only [decide_eq_true_eq, Bool.or_eq_true, bne_iff_ne]
  unfold kidsOf kk
  have hn0 : (0 : Int) ≤ (t.kids.length : Int) := Int.natCast_nonneg _
  generalize t.kind = k
  generalize (t.kids.length : Int) = n at *
  by_cases h1 : k = 1 ∨ k = 2 ∨ k = 3
  · rw [if_pos h1, if_neg (by omega), if_neg (by omega)]; omega
  · by_cases h6 : k = 6
    · rw [if_neg h1, if_pos h6, if_pos h6]; omega
    · by_cases h4 : k = 4 ∨ k = 5
      · rw [if_neg h1, if_neg h6, if_pos h4, if_neg h6, if_pos h4]; omega
      · rw [if_neg h1, if_neg h6, if_neg h4, if_neg h6, if_neg h4]; omega
end Rx

set_option maxRecDepth 100000 in
set_option maxHeartbeats 8000000 in
theorem rRexAt_any (w0 : World) (F : Nat → Prop) :
    ∀ (n : Nat) (t : Rx) (cs : Array Value) (deep m : Int) (g : Nat) (μ : List Asrt) (w : World), (Rx.enc n).R F w0 cs.toList t → Rx.In m → 1 ≤ deep → deep ≤ 31 → St w0 w (aCel g 3 #[.int .i64 m] :: μ) →
      Calls Tryd.prog 27 #[.agg cs, .int .i64 deep, .pointer (some ⟨g, 0, none⟩)] w fun e w' => e = .returned (.int .i64 (Rx.chk n t deep m).1) ∧ St w0 w' (aCel g 3 #[.int .i64 (Rx.chk n t deep m).2] :: μ) := by
  intro n
  induction n with
  | zero => intro t cs deep m g μ w h; exact h.elim
  | succ n ih =>
    intro t cs deep m g μ w ht hin hd0 hd1 hst
    obtain ⟨n', hn, vk, hcs, ⟨hk0, hk1⟩, hok, hk⟩ := Rx.opened ht
    obtain rfl : n = n' := by omega
    obtain ⟨a0, a1, a2, a3, hws⟩ := Cs.okFour hok
    have hcs2 : cs = #[.int .i64 t.kind, .int .u64 a0, .int .u64 a1, .int .u64 a2, .int .u64 a3, vk] := by
      apply Array.toList_inj.1
      rw [hcs, Rx.cel, hws]; rfl
    subst hcs2
    obtain ⟨ak, bk, ok, ck, rfl, hkl, k3, k4⟩ := Rx.kidsAt hk
    obtain ⟨hi0, hi1⟩ := hin
    have hout := Rx.chk_out (f := n + 1) (t := t) (deep := deep) (n := m) ⟨hi0, hi1⟩
    obtain ⟨R, hR⟩ : ∃ R, Rx.chk (n + 1) t deep m = R := ⟨_, rfl⟩
    rw [hR] at hout ⊢
    rw [Rx.chk, Rx.bad_ref t (decide ([a0, a1, a2, a3] = Dm.zero)) (by rw [hws])] at hR
    have hs1 := ((hst.alloc #[.int .i64 t.kind, .int .u64 a0, .int .u64 a1, .int .u64 a2, .int .u64 a3, .slice ak t.kids.length ck] 27).get2).setCel 0 (.int .i64 (m + 1))
    have HS1 := Lib.hid (show St w0 _ (aCel g 3 #[.int .i64 (m + 1)] :: aCel w.heap.size 27 #[.int .i64 t.kind, .int .u64 a0, .int .u64 a1, .int .u64 a2, .int .u64 a3, .slice ak t.kids.length ck] :: μ) from hs1)
    have hbig := hst.alloc #[.int .i64 t.kind, .int .u64 a0, .int .u64 a1, .int .u64 a2, .int .u64 a3, .slice ak t.kids.length ck] 27
    have q0 := (hbig.nth 1 rfl).celAt (i := 0) rfl
    have q1 := (hbig.nth 1 rfl).celFree 0
    have HR := Lib.hid hR
    have K3 := Lib.hid k3; have K4 := Lib.hid k4; have IH := Lib.hid ih
    clear hs1 hbig hst hR k3 k4 ih hk ht hcs hok hws hn
    generalize t.kind = kd at *
    generalize t.kids = ks at *
    by_cases h1 : 100 < m + 1
    · have he := HR.out
      rw [if_pos h1] at he
      subst he
      clear HR K3 K4 IH hkl
      go_enter Tryd.func27, Tryd.ntmps27
      go_wp2
      go_ret
      exact ⟨rfl, HS1.out.pick [0] 2 rfl rfl⟩
    by_cases h2 : 30 < deep
    · have he := HR.out
      rw [if_neg h1, if_pos h2] at he
      subst he
      clear HR K3 K4 IH hkl
      go_enter Tryd.func27, Tryd.ntmps27
      go_wp2
      go_ret
      exact ⟨rfl, HS1.out.pick [0] 2 rfl rfl⟩
    have hR2 := HR.out
    rw [if_neg h1, if_neg h2] at hR2
    clear HR
    have heq := fun W => Rx.eqz (a0 := a0) (a1 := a1) (a2 := a2) (a3 := a3) W
    generalize decide ([a0, a1, a2, a3] = Dm.zero) = bz at *
    have HR := Lib.hid hR2
    clear hR2
    have HSN := Lib.hid fun n => HS1.out.drewN n
    have hdw : IntKind.i64.wrap (deep + 1) = deep + 1 := IntWalk.i64_in _ (by omega)
    obtain ⟨y0, y1, y2, y3, y4, y5⟩ := Rx.cel6 HS1.out 1 rfl
    by_cases h6 : kd = 6
    · subst h6
      obtain ⟨bl, hbl⟩ : ∃ b, ((ks.length : Int) != 1) = b := ⟨_, rfl⟩
      have he := HR.out
      rw [show Rx.kk 6 = 1 from rfl, hbl] at he
      cases bl
      · cases bz
        · skip
          rw [if_pos (by decide)] at he
          subst he
          go_enter Tryd.func27, Tryd.ntmps27
          go_wp2_with (fail)
          generalize hWW : World.setCell _ _ _ = W1 at *
          clear hWW
          go_quiet (fail)
          have HS := Lib.hid (HSN.out nq)
          clear HSN HS1 q0 q1 y0 y1 y2 y3 y4 y5
          generalize World.drewN _ _ = W2 at *
          obtain ⟨y0, y1, y2, y3, y4, y5⟩ := Rx.cel6 HS.out 1 rfl
          have g0 := (HS.out.nth 0 rfl).celAt (i := 0) rfl
          go_wp2
          go_ret
          exact ⟨rfl, HS.out.pick [0] 2 rfl rfl⟩
        · skip
          rw [if_neg (by decide)] at he
          have HRL : Hid (Rx.chkK (fun k n' => Rx.chk n k (deep + 1) n') (ks.drop 0) (m + 1) = R) := Lib.hid he
          clear he HR
          go_enter Tryd.func27, Tryd.ntmps27
          go_wp2_with (fail)
          generalize hWW : World.setCell _ _ _ = W1 at *
          clear hWW
          go_quiet (fail)
          have HS := Lib.hid (HSN.out nq)
          clear HSN HS1 q0 q1 y0 y1 y2 y3 y4 y5
          generalize World.drewN _ _ = W2 at *
          obtain ⟨y0, y1, y2, y3, y4, y5⟩ := Rx.cel6 HS.out 1 rfl
          have g0 := (HS.out.nth 0 rfl).celAt (i := 0) rfl
          go_wp2_with (fail)
          go_loopg [8] ks.length (fun gk v8 wr => ∃ (i : Nat) (m' : Int), i ≤ ks.length ∧ gk = ks.length - i ∧ v8 = .int .i64 i ∧ Rx.In m' ∧ Hid (Rx.chkK (fun k n' => Rx.chk n k (deep + 1) n') (ks.drop i) m' = R) ∧ St w0 wr (aCel g 3 #[.int .i64 m'] :: aCel w.heap.size 27 #[.int .i64 6, .int .u64 a0, .int .u64 a1, .int .u64 a2, .int .u64 a3, .slice ak ks.length ck] :: μ))
          case atStart => exact ⟨0, m + 1, by omega, by omega, rfl, ⟨by omega, by omega⟩, HRL, HS.out⟩
          case round =>
            clear HS HRL y0 y1 y2 y3 y4 y5 g0
            obtain ⟨i, m', hi, hgk, rfl, hin', HRL, hst⟩ := hrel
            obtain ⟨y0, y1, y2, y3, y4, y5⟩ := Rx.cel6 hst 1 rfl
            have HGK := Lib.hid hgk
            have HIN := Lib.hid hin'
            clear hgk hin'
            by_cases hlt : i < ks.length
            · have hltI : (i : Int) < ks.length := by omega
              obtain ⟨rfl, -, -⟩ := K3.out (by omega)
              obtain ⟨b0, b1, b2, b3', ax, cx, -, e0, e1, e2, e3, e4, e5, hen⟩ := K4.out i hlt
              have he := HRL.out
              rw [Rx.chkK_at hlt] at he
              have hout2 := Rx.chk_out (f := n) (t := ks.getD i Rx.nil) (deep := deep + 1) (n := m') HIN.out
              have c0 := bkeep hst.bel e0; have c1 := bkeep hst.bel e1; have c2 := bkeep hst.bel e2; have c3 := bkeep hst.bel e3; have c4 := bkeep hst.bel e4; have c5 := bkeep hst.bel e5
              have HC := Lib.hid (fun W hW => IH.out (ks.getD i Rx.nil) #[.int .i64 (ks.getD i Rx.nil).kind, .int .u64 b0, .int .u64 b1, .int .u64 b2, .int .u64 b3', .slice ax (ks.getD i Rx.nil).kids.length cx] (deep + 1) m' g (aCel w.heap.size 27 #[.int .i64 6, .int .u64 a0, .int .u64 a1, .int .u64 a2, .int .u64 a3, .slice (some ⟨bk, ok, none⟩) ks.length ck] :: μ) W hen HIN.out (by omega) (by omega) hW)
              have HST := Lib.hid hst
              clear hst e0 e1 e2 e3 e4 e5 hen
              obtain ⟨Q, hQ⟩ : ∃ Q, Rx.chk n (ks.getD i Rx.nil) (deep + 1) m' = Q := ⟨_, rfl⟩
              rw [hQ] at HC he hout2
              have HE := Lib.hid he
              clear hQ he
              generalize (ks.getD i Rx.nil).kind = kd2 at *
              generalize (ks.getD i Rx.nil).kids.length = nx at *
              obtain ⟨e, m2⟩ := Q
              obtain ⟨o1, o2, o3, o4⟩ := hout2
              simp only at HC o1 o2 o3 o4
              go_wp2_with (fail)
              go_at_call 27
              refine (HC.out _ HST.out).mono ?_
              rintro ex w5 ⟨rfl, hst5⟩
              have HST5 := Lib.hid hst5
              clear hst5 HST HC c0 c1 c2 c3 c4 c5
              by_cases he0 : e = 0
              · subst he0
                have HRL := Lib.hid (show Rx.chkK (fun k n' => Rx.chk n k (deep + 1) n') (ks.drop (i + 1)) m2 = R by rw [← HE.out, if_pos rfl])
                have hm2 := o3 rfl
                go_wp2
                go_roundg (ks.length - (i + 1))
                case measure => have := HGK.out; omega
                case rel => exact ⟨i + 1, m2, by omega, rfl, by go_num, ⟨o1, hm2⟩, HRL, HST5.out⟩
              · have hne : (e != 0) = true := by simpa using he0
                have HRE := Lib.hid (show (e, m2) = R by rw [← HE.out, if_neg he0])
                go_wp2
                go_ret
                exact ⟨by rw [← HRE.out]; rfl, by rw [← HRE.out]; exact HST5.out.pick [0] 2 rfl rfl⟩
            · have hge : ¬ ((i : Int) < ks.length) := by omega
              have HRE := Lib.hid (show ((0 : Int), m') = R by rw [← HRL.out, Rx.chkK_end hlt])
              go_wp2
              go_ret
              exact ⟨by rw [← HRE.out]; rfl, by rw [← HRE.out]; exact hst.pick [0] 2 rfl rfl⟩
      · skip
        rw [if_pos (by cases bz <;> decide)] at he
        subst he
        go_enter Tryd.func27, Tryd.ntmps27
        go_wp2_with (fail)
        generalize hWW : World.setCell _ _ _ = W1 at *
        clear hWW
        go_quiet (fail)
        have HS := Lib.hid (HSN.out nq)
        clear HSN HS1 q0 q1 y0 y1 y2 y3 y4 y5
        generalize World.drewN _ _ = W2 at *
        obtain ⟨y0, y1, y2, y3, y4, y5⟩ := Rx.cel6 HS.out 1 rfl
        have g0 := (HS.out.nth 0 rfl).celAt (i := 0) rfl
        go_wp2
        go_ret
        exact ⟨rfl, HS.out.pick [0] 2 rfl rfl⟩
    by_cases h4 : kd = 4
    · subst h4
      obtain ⟨bl, hbl⟩ : ∃ b, ((ks.length : Int) != 2) = b := ⟨_, rfl⟩
      have he := HR.out
      rw [show Rx.kk 4 = 2 from rfl, hbl] at he
      cases bl
      · cases bz
        · skip
          rw [if_pos (by decide)] at he
          subst he
          go_enter Tryd.func27, Tryd.ntmps27
          go_wp2_with (fail)
          generalize hWW : World.setCell _ _ _ = W1 at *
          clear hWW
          go_quiet (fail)
          have HS := Lib.hid (HSN.out nq)
          clear HSN HS1 q0 q1 y0 y1 y2 y3 y4 y5
          generalize World.drewN _ _ = W2 at *
          obtain ⟨y0, y1, y2, y3, y4, y5⟩ := Rx.cel6 HS.out 1 rfl
          have g0 := (HS.out.nth 0 rfl).celAt (i := 0) rfl
          go_wp2
          go_ret
          exact ⟨rfl, HS.out.pick [0] 2 rfl rfl⟩
        · skip
          rw [if_neg (by decide)] at he
          have HRL : Hid (Rx.chkK (fun k n' => Rx.chk n k (deep + 1) n') (ks.drop 0) (m + 1) = R) := Lib.hid he
          clear he HR
          go_enter Tryd.func27, Tryd.ntmps27
          go_wp2_with (fail)
          generalize hWW : World.setCell _ _ _ = W1 at *
          clear hWW
          go_quiet (fail)
          have HS := Lib.hid (HSN.out nq)
          clear HSN HS1 q0 q1 y0 y1 y2 y3 y4 y5
          generalize World.drewN _ _ = W2 at *
          obtain ⟨y0, y1, y2, y3, y4, y5⟩ := Rx.cel6 HS.out 1 rfl
          have g0 := (HS.out.nth 0 rfl).celAt (i := 0) rfl
          go_wp2_with (fail)
          go_loopg [8] ks.length (fun gk v8 wr => ∃ (i : Nat) (m' : Int), i ≤ ks.length ∧ gk = ks.length - i ∧ v8 = .int .i64 i ∧ Rx.In m' ∧ Hid (Rx.chkK (fun k n' => Rx.chk n k (deep + 1) n') (ks.drop i) m' = R) ∧ St w0 wr (aCel g 3 #[.int .i64 m'] :: aCel w.heap.size 27 #[.int .i64 4, .int .u64 a0, .int .u64 a1, .int .u64 a2, .int .u64 a3, .slice ak ks.length ck] :: μ))
          case atStart => exact ⟨0, m + 1, by omega, by omega, rfl, ⟨by omega, by omega⟩, HRL, HS.out⟩
          case round =>
            clear HS HRL y0 y1 y2 y3 y4 y5 g0
            obtain ⟨i, m', hi, hgk, rfl, hin', HRL, hst⟩ := hrel
            obtain ⟨y0, y1, y2, y3, y4, y5⟩ := Rx.cel6 hst 1 rfl
            have HGK := Lib.hid hgk
            have HIN := Lib.hid hin'
            clear hgk hin'
            by_cases hlt : i < ks.length
            · have hltI : (i : Int) < ks.length := by omega
              obtain ⟨rfl, -, -⟩ := K3.out (by omega)
              obtain ⟨b0, b1, b2, b3', ax, cx, -, e0, e1, e2, e3, e4, e5, hen⟩ := K4.out i hlt
              have he := HRL.out
              rw [Rx.chkK_at hlt] at he
              have hout2 := Rx.chk_out (f := n) (t := ks.getD i Rx.nil) (deep := deep + 1) (n := m') HIN.out
              have c0 := bkeep hst.bel e0; have c1 := bkeep hst.bel e1; have c2 := bkeep hst.bel e2; have c3 := bkeep hst.bel e3; have c4 := bkeep hst.bel e4; have c5 := bkeep hst.bel e5
              have HC := Lib.hid (fun W hW => IH.out (ks.getD i Rx.nil) #[.int .i64 (ks.getD i Rx.nil).kind, .int .u64 b0, .int .u64 b1, .int .u64 b2, .int .u64 b3', .slice ax (ks.getD i Rx.nil).kids.length cx] (deep + 1) m' g (aCel w.heap.size 27 #[.int .i64 4, .int .u64 a0, .int .u64 a1, .int .u64 a2, .int .u64 a3, .slice (some ⟨bk, ok, none⟩) ks.length ck] :: μ) W hen HIN.out (by omega) (by omega) hW)
              have HST := Lib.hid hst
              clear hst e0 e1 e2 e3 e4 e5 hen
              obtain ⟨Q, hQ⟩ : ∃ Q, Rx.chk n (ks.getD i Rx.nil) (deep + 1) m' = Q := ⟨_, rfl⟩
              rw [hQ] at HC he hout2
              have HE := Lib.hid he
              clear hQ he
              generalize (ks.getD i Rx.nil).kind = kd2 at *
              generalize (ks.getD i Rx.nil).kids.length = nx at *
              obtain ⟨e, m2⟩ := Q
              obtain ⟨o1, o2, o3, o4⟩ := hout2
              simp only at HC o1 o2 o3 o4
              go_wp2_with (fail)
              go_at_call 27
              refine (HC.out _ HST.out).mono ?_
              rintro ex w5 ⟨rfl, hst5⟩
              have HST5 := Lib.hid hst5
              clear hst5 HST HC c0 c1 c2 c3 c4 c5
              by_cases he0 : e = 0
              · subst he0
                have HRL := Lib.hid (show Rx.chkK (fun k n' => Rx.chk n k (deep + 1) n') (ks.drop (i + 1)) m2 = R by rw [← HE.out, if_pos rfl])
                have hm2 := o3 rfl
                go_wp2
                go_roundg (ks.length - (i + 1))
                case measure => have := HGK.out; omega
                case rel => exact ⟨i + 1, m2, by omega, rfl, by go_num, ⟨o1, hm2⟩, HRL, HST5.out⟩
              · have hne : (e != 0) = true := by simpa using he0
                have HRE := Lib.hid (show (e, m2) = R by rw [← HE.out, if_neg he0])
                go_wp2
                go_ret
                exact ⟨by rw [← HRE.out]; rfl, by rw [← HRE.out]; exact HST5.out.pick [0] 2 rfl rfl⟩
            · have hge : ¬ ((i : Int) < ks.length) := by omega
              have HRE := Lib.hid (show ((0 : Int), m') = R by rw [← HRL.out, Rx.chkK_end hlt])
              go_wp2
              go_ret
              exact ⟨by rw [← HRE.out]; rfl, by rw [← HRE.out]; exact hst.pick [0] 2 rfl rfl⟩
      · skip
        rw [if_pos (by cases bz <;> decide)] at he
        subst he
        go_enter Tryd.func27, Tryd.ntmps27
        go_wp2_with (fail)
        generalize hWW : World.setCell _ _ _ = W1 at *
        clear hWW
        go_quiet (fail)
        have HS := Lib.hid (HSN.out nq)
        clear HSN HS1 q0 q1 y0 y1 y2 y3 y4 y5
        generalize World.drewN _ _ = W2 at *
        obtain ⟨y0, y1, y2, y3, y4, y5⟩ := Rx.cel6 HS.out 1 rfl
        have g0 := (HS.out.nth 0 rfl).celAt (i := 0) rfl
        go_wp2
        go_ret
        exact ⟨rfl, HS.out.pick [0] 2 rfl rfl⟩
    by_cases h5 : kd = 5
    · subst h5
      obtain ⟨bl, hbl⟩ : ∃ b, ((ks.length : Int) != 2) = b := ⟨_, rfl⟩
      have he := HR.out
      rw [show Rx.kk 5 = 2 from rfl, hbl] at he
      cases bl
      · cases bz
        · skip
          rw [if_pos (by decide)] at he
          subst he
          go_enter Tryd.func27, Tryd.ntmps27
          go_wp2_with (fail)
          generalize hWW : World.setCell _ _ _ = W1 at *
          clear hWW
          go_quiet (fail)
          have HS := Lib.hid (HSN.out nq)
          clear HSN HS1 q0 q1 y0 y1 y2 y3 y4 y5
          generalize World.drewN _ _ = W2 at *
          obtain ⟨y0, y1, y2, y3, y4, y5⟩ := Rx.cel6 HS.out 1 rfl
          have g0 := (HS.out.nth 0 rfl).celAt (i := 0) rfl
          go_wp2
          go_ret
          exact ⟨rfl, HS.out.pick [0] 2 rfl rfl⟩
        · skip
          rw [if_neg (by decide)] at he
          have HRL : Hid (Rx.chkK (fun k n' => Rx.chk n k (deep + 1) n') (ks.drop 0) (m + 1) = R) := Lib.hid he
          clear he HR
          go_enter Tryd.func27, Tryd.ntmps27
          go_wp2_with (fail)
          generalize hWW : World.setCell _ _ _ = W1 at *
          clear hWW
          go_quiet (fail)
          have HS := Lib.hid (HSN.out nq)
          clear HSN HS1 q0 q1 y0 y1 y2 y3 y4 y5
          generalize World.drewN _ _ = W2 at *
          obtain ⟨y0, y1, y2, y3, y4, y5⟩ := Rx.cel6 HS.out 1 rfl
          have g0 := (HS.out.nth 0 rfl).celAt (i := 0) rfl
          go_wp2_with (fail)
          go_loopg [8] ks.length (fun gk v8 wr => ∃ (i : Nat) (m' : Int), i ≤ ks.length ∧ gk = ks.length - i ∧ v8 = .int .i64 i ∧ Rx.In m' ∧ Hid (Rx.chkK (fun k n' => Rx.chk n k (deep + 1) n') (ks.drop i) m' = R) ∧ St w0 wr (aCel g 3 #[.int .i64 m'] :: aCel w.heap.size 27 #[.int .i64 5, .int .u64 a0, .int .u64 a1, .int .u64 a2, .int .u64 a3, .slice ak ks.length ck] :: μ))
          case atStart => exact ⟨0, m + 1, by omega, by omega, rfl, ⟨by omega, by omega⟩, HRL, HS.out⟩
          case round =>
            clear HS HRL y0 y1 y2 y3 y4 y5 g0
            obtain ⟨i, m', hi, hgk, rfl, hin', HRL, hst⟩ := hrel
            obtain ⟨y0, y1, y2, y3, y4, y5⟩ := Rx.cel6 hst 1 rfl
            have HGK := Lib.hid hgk
            have HIN := Lib.hid hin'
            clear hgk hin'
            by_cases hlt : i < ks.length
            · have hltI : (i : Int) < ks.length := by omega
              obtain ⟨rfl, -, -⟩ := K3.out (by omega)
              obtain ⟨b0, b1, b2, b3', ax, cx, -, e0, e1, e2, e3, e4, e5, hen⟩ := K4.out i hlt
              have he := HRL.out
              rw [Rx.chkK_at hlt] at he
              have hout2 := Rx.chk_out (f := n) (t := ks.getD i Rx.nil) (deep := deep + 1) (n := m') HIN.out
              have c0 := bkeep hst.bel e0; have c1 := bkeep hst.bel e1; have c2 := bkeep hst.bel e2; have c3 := bkeep hst.bel e3; have c4 := bkeep hst.bel e4; have c5 := bkeep hst.bel e5
              have HC := Lib.hid (fun W hW => IH.out (ks.getD i Rx.nil) #[.int .i64 (ks.getD i Rx.nil).kind, .int .u64 b0, .int .u64 b1, .int .u64 b2, .int .u64 b3', .slice ax (ks.getD i Rx.nil).kids.length cx] (deep + 1) m' g (aCel w.heap.size 27 #[.int .i64 5, .int .u64 a0, .int .u64 a1, .int .u64 a2, .int .u64 a3, .slice (some ⟨bk, ok, none⟩) ks.length ck] :: μ) W hen HIN.out (by omega) (by omega) hW)
              have HST := Lib.hid hst
              clear hst e0 e1 e2 e3 e4 e5 hen
              obtain ⟨Q, hQ⟩ : ∃ Q, Rx.chk n (ks.getD i Rx.nil) (deep + 1) m' = Q := ⟨_, rfl⟩
              rw [hQ] at HC he hout2
              have HE := Lib.hid he
              clear hQ he
              generalize (ks.getD i Rx.nil).kind = kd2 at *
              generalize (ks.getD i Rx.nil).kids.length = nx at *
              obtain ⟨e, m2⟩ := Q
              obtain ⟨o1, o2, o3, o4⟩ := hout2
              simp only at HC o1 o2 o3 o4
              go_wp2_with (fail)
              go_at_call 27
              refine (HC.out _ HST.out).mono ?_
              rintro ex w5 ⟨rfl, hst5⟩
              have HST5 := Lib.hid hst5
              clear hst5 HST HC c0 c1 c2 c3 c4 c5
              by_cases he0 : e = 0
              · subst he0
                have HRL := Lib.hid (show Rx.chkK (fun k n' => Rx.chk n k (deep + 1) n') (ks.drop (i + 1)) m2 = R by rw [← HE.out, if_pos rfl])
                have hm2 := o3 rfl
                go_wp2
                go_roundg (ks.length - (i + 1))
                case measure => have := HGK.out; omega
                case rel => exact ⟨i + 1, m2, by omega, rfl, by go_num, ⟨o1, hm2⟩, HRL, HST5.out⟩
              · have hne : (e != 0) = true := by simpa using he0
                have HRE := Lib.hid (show (e, m2) = R by rw [← HE.out, if_neg he0])
                go_wp2
                go_ret
                exact ⟨by rw [← HRE.out]; rfl, by rw [← HRE.out]; exact HST5.out.pick [0] 2 rfl rfl⟩
            · have hge : ¬ ((i : Int) < ks.length) := by omega
              have HRE := Lib.hid (show ((0 : Int), m') = R by rw [← HRL.out, Rx.chkK_end hlt])
              go_wp2
              go_ret
              exact ⟨by rw [← HRE.out]; rfl, by rw [← HRE.out]; exact hst.pick [0] 2 rfl rfl⟩
      · skip
        rw [if_pos (by cases bz <;> decide)] at he
        subst he
        go_enter Tryd.func27, Tryd.ntmps27
        go_wp2_with (fail)
        generalize hWW : World.setCell _ _ _ = W1 at *
        clear hWW
        go_quiet (fail)
        have HS := Lib.hid (HSN.out nq)
        clear HSN HS1 q0 q1 y0 y1 y2 y3 y4 y5
        generalize World.drewN _ _ = W2 at *
        obtain ⟨y0, y1, y2, y3, y4, y5⟩ := Rx.cel6 HS.out 1 rfl
        have g0 := (HS.out.nth 0 rfl).celAt (i := 0) rfl
        go_wp2
        go_ret
        exact ⟨rfl, HS.out.pick [0] 2 rfl rfl⟩
    have e4 : (kd == 4) = false := by rw [beq_eq_false_iff_ne]; exact h4
    have e5 : (kd == 5) = false := by rw [beq_eq_false_iff_ne]; exact h5
    have e6 : (kd == 6) = false := by rw [beq_eq_false_iff_ne]; exact h6
    obtain ⟨bl, hbl⟩ : ∃ b, ((ks.length : Int) != 0) = b := ⟨_, rfl⟩
    have he := HR.out
    rw [show Rx.kk kd = 0 by rw [Rx.kk, if_neg h6, if_neg (by omega)], hbl] at he
    clear h4 h5 h6
    by_cases hlo : kd < 1
    · have hlo2 : decide (kd < 1) = true := decide_eq_true hlo
      rw [hlo2, Bool.true_or, Bool.true_or, Bool.true_or, if_pos rfl] at he
      subst he
      go_enter Tryd.func27, Tryd.ntmps27
      go_wp2_with (fail)
      generalize hWW : World.setCell _ _ _ = W1 at *
      clear hWW
      go_quiet (fail)
      have HS := Lib.hid (HSN.out nq)
      clear HSN HS1 q0 q1 y0 y1 y2 y3 y4 y5
      generalize World.drewN _ _ = W2 at *
      obtain ⟨y0, y1, y2, y3, y4, y5⟩ := Rx.cel6 HS.out 1 rfl
      have g0 := (HS.out.nth 0 rfl).celAt (i := 0) rfl
      go_wp2
      go_ret
      exact ⟨rfl, HS.out.pick [0] 2 rfl rfl⟩
    have hlo2 : decide (kd < 1) = false := decide_eq_false hlo
    by_cases hhi : 6 < kd
    · have hhi2 : decide (6 < kd) = true := decide_eq_true hhi
      rw [hlo2, hhi2, Bool.false_or, Bool.true_or, Bool.true_or, if_pos rfl] at he
      subst he
      go_enter Tryd.func27, Tryd.ntmps27
      go_wp2_with (fail)
      generalize hWW : World.setCell _ _ _ = W1 at *
      clear hWW
      go_quiet (fail)
      have HS := Lib.hid (HSN.out nq)
      clear HSN HS1 q0 q1 y0 y1 y2 y3 y4 y5
      generalize World.drewN _ _ = W2 at *
      obtain ⟨y0, y1, y2, y3, y4, y5⟩ := Rx.cel6 HS.out 1 rfl
      have g0 := (HS.out.nth 0 rfl).celAt (i := 0) rfl
      go_wp2
      go_ret
      exact ⟨rfl, HS.out.pick [0] 2 rfl rfl⟩
    have hhi2 : decide (6 < kd) = false := decide_eq_false hhi
    obtain ⟨b3, hb3⟩ : ∃ b, (kd == 3) = b := ⟨_, rfl⟩
    rw [hlo2, hhi2, Bool.false_or, Bool.false_or, hb3] at he
    cases bl
    · cases b3
      · cases bz
        · skip
          rw [if_pos (by decide)] at he
          subst he
          go_enter Tryd.func27, Tryd.ntmps27
          go_wp2_with (fail)
          generalize hWW : World.setCell _ _ _ = W1 at *
          clear hWW
          go_quiet (fail)
          have HS := Lib.hid (HSN.out nq)
          clear HSN HS1 q0 q1 y0 y1 y2 y3 y4 y5
          generalize World.drewN _ _ = W2 at *
          obtain ⟨y0, y1, y2, y3, y4, y5⟩ := Rx.cel6 HS.out 1 rfl
          have g0 := (HS.out.nth 0 rfl).celAt (i := 0) rfl
          go_wp2
          go_ret
          exact ⟨rfl, HS.out.pick [0] 2 rfl rfl⟩
        · skip
          rw [if_neg (by decide)] at he
          have HRL : Hid (Rx.chkK (fun k n' => Rx.chk n k (deep + 1) n') (ks.drop 0) (m + 1) = R) := Lib.hid he
          clear he HR
          go_enter Tryd.func27, Tryd.ntmps27
          go_wp2_with (fail)
          generalize hWW : World.setCell _ _ _ = W1 at *
          clear hWW
          go_quiet (fail)
          have HS := Lib.hid (HSN.out nq)
          clear HSN HS1 q0 q1 y0 y1 y2 y3 y4 y5
          generalize World.drewN _ _ = W2 at *
          obtain ⟨y0, y1, y2, y3, y4, y5⟩ := Rx.cel6 HS.out 1 rfl
          have g0 := (HS.out.nth 0 rfl).celAt (i := 0) rfl
          go_wp2_with (fail)
          go_loopg [8] ks.length (fun gk v8 wr => ∃ (i : Nat) (m' : Int), i ≤ ks.length ∧ gk = ks.length - i ∧ v8 = .int .i64 i ∧ Rx.In m' ∧ Hid (Rx.chkK (fun k n' => Rx.chk n k (deep + 1) n') (ks.drop i) m' = R) ∧ St w0 wr (aCel g 3 #[.int .i64 m'] :: aCel w.heap.size 27 #[.int .i64 kd, .int .u64 a0, .int .u64 a1, .int .u64 a2, .int .u64 a3, .slice ak ks.length ck] :: μ))
          case atStart => exact ⟨0, m + 1, by omega, by omega, rfl, ⟨by omega, by omega⟩, HRL, HS.out⟩
          case round =>
            clear HS HRL y0 y1 y2 y3 y4 y5 g0
            obtain ⟨i, m', hi, hgk, rfl, hin', HRL, hst⟩ := hrel
            obtain ⟨y0, y1, y2, y3, y4, y5⟩ := Rx.cel6 hst 1 rfl
            have HGK := Lib.hid hgk
            have HIN := Lib.hid hin'
            clear hgk hin'
            by_cases hlt : i < ks.length
            · have hltI : (i : Int) < ks.length := by omega
              obtain ⟨rfl, -, -⟩ := K3.out (by omega)
              obtain ⟨b0, b1, b2, b3', ax, cx, -, e0, e1, e2, e3, e4, e5, hen⟩ := K4.out i hlt
              have he := HRL.out
              rw [Rx.chkK_at hlt] at he
              have hout2 := Rx.chk_out (f := n) (t := ks.getD i Rx.nil) (deep := deep + 1) (n := m') HIN.out
              have c0 := bkeep hst.bel e0; have c1 := bkeep hst.bel e1; have c2 := bkeep hst.bel e2; have c3 := bkeep hst.bel e3; have c4 := bkeep hst.bel e4; have c5 := bkeep hst.bel e5
              have HC := Lib.hid (fun W hW => IH.out (ks.getD i Rx.nil) #[.int .i64 (ks.getD i Rx.nil).kind, .int .u64 b0, .int .u64 b1, .int .u64 b2, .int .u64 b3', .slice ax (ks.getD i Rx.nil).kids.length cx] (deep + 1) m' g (aCel w.heap.size 27 #[.int .i64 kd, .int .u64 a0, .int .u64 a1, .int .u64 a2, .int .u64 a3, .slice (some ⟨bk, ok, none⟩) ks.length ck] :: μ) W hen HIN.out (by omega) (by omega) hW)
              have HST := Lib.hid hst
              clear hst e0 e1 e2 e3 e4 e5 hen
              obtain ⟨Q, hQ⟩ : ∃ Q, Rx.chk n (ks.getD i Rx.nil) (deep + 1) m' = Q := ⟨_, rfl⟩
              rw [hQ] at HC he hout2
              have HE := Lib.hid he
              clear hQ he
              generalize (ks.getD i Rx.nil).kind = kd2 at *
              generalize (ks.getD i Rx.nil).kids.length = nx at *
              obtain ⟨e, m2⟩ := Q
              obtain ⟨o1, o2, o3, o4⟩ := hout2
              simp only at HC o1 o2 o3 o4
              go_wp2_with (fail)
              go_at_call 27
              refine (HC.out _ HST.out).mono ?_
              rintro ex w5 ⟨rfl, hst5⟩
              have HST5 := Lib.hid hst5
              clear hst5 HST HC c0 c1 c2 c3 c4 c5
              by_cases he0 : e = 0
              · subst he0
                have HRL := Lib.hid (show Rx.chkK (fun k n' => Rx.chk n k (deep + 1) n') (ks.drop (i + 1)) m2 = R by rw [← HE.out, if_pos rfl])
                have hm2 := o3 rfl
                go_wp2
                go_roundg (ks.length - (i + 1))
                case measure => have := HGK.out; omega
                case rel => exact ⟨i + 1, m2, by omega, rfl, by go_num, ⟨o1, hm2⟩, HRL, HST5.out⟩
              · have hne : (e != 0) = true := by simpa using he0
                have HRE := Lib.hid (show (e, m2) = R by rw [← HE.out, if_neg he0])
                go_wp2
                go_ret
                exact ⟨by rw [← HRE.out]; rfl, by rw [← HRE.out]; exact HST5.out.pick [0] 2 rfl rfl⟩
            · have hge : ¬ ((i : Int) < ks.length) := by omega
              have HRE := Lib.hid (show ((0 : Int), m') = R by rw [← HRL.out, Rx.chkK_end hlt])
              go_wp2
              go_ret
              exact ⟨by rw [← HRE.out]; rfl, by rw [← HRE.out]; exact hst.pick [0] 2 rfl rfl⟩
      · cases bz
        · skip
          rw [if_neg (by decide)] at he
          have HRL : Hid (Rx.chkK (fun k n' => Rx.chk n k (deep + 1) n') (ks.drop 0) (m + 1) = R) := Lib.hid he
          clear he HR
          go_enter Tryd.func27, Tryd.ntmps27
          go_wp2_with (fail)
          generalize hWW : World.setCell _ _ _ = W1 at *
          clear hWW
          go_quiet (fail)
          have HS := Lib.hid (HSN.out nq)
          clear HSN HS1 q0 q1 y0 y1 y2 y3 y4 y5
          generalize World.drewN _ _ = W2 at *
          obtain ⟨y0, y1, y2, y3, y4, y5⟩ := Rx.cel6 HS.out 1 rfl
          have g0 := (HS.out.nth 0 rfl).celAt (i := 0) rfl
          go_wp2_with (fail)
          go_loopg [8] ks.length (fun gk v8 wr => ∃ (i : Nat) (m' : Int), i ≤ ks.length ∧ gk = ks.length - i ∧ v8 = .int .i64 i ∧ Rx.In m' ∧ Hid (Rx.chkK (fun k n' => Rx.chk n k (deep + 1) n') (ks.drop i) m' = R) ∧ St w0 wr (aCel g 3 #[.int .i64 m'] :: aCel w.heap.size 27 #[.int .i64 kd, .int .u64 a0, .int .u64 a1, .int .u64 a2, .int .u64 a3, .slice ak ks.length ck] :: μ))
          case atStart => exact ⟨0, m + 1, by omega, by omega, rfl, ⟨by omega, by omega⟩, HRL, HS.out⟩
          case round =>
            clear HS HRL y0 y1 y2 y3 y4 y5 g0
            obtain ⟨i, m', hi, hgk, rfl, hin', HRL, hst⟩ := hrel
            obtain ⟨y0, y1, y2, y3, y4, y5⟩ := Rx.cel6 hst 1 rfl
            have HGK := Lib.hid hgk
            have HIN := Lib.hid hin'
            clear hgk hin'
            by_cases hlt : i < ks.length
            · have hltI : (i : Int) < ks.length := by omega
              obtain ⟨rfl, -, -⟩ := K3.out (by omega)
              obtain ⟨b0, b1, b2, b3', ax, cx, -, e0, e1, e2, e3, e4, e5, hen⟩ := K4.out i hlt
              have he := HRL.out
              rw [Rx.chkK_at hlt] at he
              have hout2 := Rx.chk_out (f := n) (t := ks.getD i Rx.nil) (deep := deep + 1) (n := m') HIN.out
              have c0 := bkeep hst.bel e0; have c1 := bkeep hst.bel e1; have c2 := bkeep hst.bel e2; have c3 := bkeep hst.bel e3; have c4 := bkeep hst.bel e4; have c5 := bkeep hst.bel e5
              have HC := Lib.hid (fun W hW => IH.out (ks.getD i Rx.nil) #[.int .i64 (ks.getD i Rx.nil).kind, .int .u64 b0, .int .u64 b1, .int .u64 b2, .int .u64 b3', .slice ax (ks.getD i Rx.nil).kids.length cx] (deep + 1) m' g (aCel w.heap.size 27 #[.int .i64 kd, .int .u64 a0, .int .u64 a1, .int .u64 a2, .int .u64 a3, .slice (some ⟨bk, ok, none⟩) ks.length ck] :: μ) W hen HIN.out (by omega) (by omega) hW)
              have HST := Lib.hid hst
              clear hst e0 e1 e2 e3 e4 e5 hen
              obtain ⟨Q, hQ⟩ : ∃ Q, Rx.chk n (ks.getD i Rx.nil) (deep + 1) m' = Q := ⟨_, rfl⟩
              rw [hQ] at HC he hout2
              have HE := Lib.hid he
              clear hQ he
              generalize (ks.getD i Rx.nil).kind = kd2 at *
              generalize (ks.getD i Rx.nil).kids.length = nx at *
              obtain ⟨e, m2⟩ := Q
              obtain ⟨o1, o2, o3, o4⟩ := hout2
              simp only at HC o1 o2 o3 o4
              go_wp2_with (fail)
              go_at_call 27
              refine (HC.out _ HST.out).mono ?_
              rintro ex w5 ⟨rfl, hst5⟩
              have HST5 := Lib.hid hst5
              clear hst5 HST HC c0 c1 c2 c3 c4 c5
              by_cases he0 : e = 0
              · subst he0
                have HRL := Lib.hid (show Rx.chkK (fun k n' => Rx.chk n k (deep + 1) n') (ks.drop (i + 1)) m2 = R by rw [← HE.out, if_pos rfl])
                have hm2 := o3 rfl
                go_wp2
                go_roundg (ks.length - (i + 1))
                case measure => have := HGK.out; omega
                case rel => exact ⟨i + 1, m2, by omega, rfl, by go_num, ⟨o1, hm2⟩, HRL, HST5.out⟩
              · have hne : (e != 0) = true := by simpa using he0
                have HRE := Lib.hid (show (e, m2) = R by rw [← HE.out, if_neg he0])
                go_wp2
                go_ret
                exact ⟨by rw [← HRE.out]; rfl, by rw [← HRE.out]; exact HST5.out.pick [0] 2 rfl rfl⟩
            · have hge : ¬ ((i : Int) < ks.length) := by omega
              have HRE := Lib.hid (show ((0 : Int), m') = R by rw [← HRL.out, Rx.chkK_end hlt])
              go_wp2
              go_ret
              exact ⟨by rw [← HRE.out]; rfl, by rw [← HRE.out]; exact hst.pick [0] 2 rfl rfl⟩
        · skip
          rw [if_pos (by decide)] at he
          subst he
          go_enter Tryd.func27, Tryd.ntmps27
          go_wp2_with (fail)
          generalize hWW : World.setCell _ _ _ = W1 at *
          clear hWW
          go_quiet (fail)
          have HS := Lib.hid (HSN.out nq)
          clear HSN HS1 q0 q1 y0 y1 y2 y3 y4 y5
          generalize World.drewN _ _ = W2 at *
          obtain ⟨y0, y1, y2, y3, y4, y5⟩ := Rx.cel6 HS.out 1 rfl
          have g0 := (HS.out.nth 0 rfl).celAt (i := 0) rfl
          go_wp2
          go_ret
          exact ⟨rfl, HS.out.pick [0] 2 rfl rfl⟩
    · skip
      rw [Bool.true_or, if_pos rfl] at he
      subst he
      go_enter Tryd.func27, Tryd.ntmps27
      go_wp2_with (fail)
      generalize hWW : World.setCell _ _ _ = W1 at *
      clear hWW
      go_quiet (fail)
      have HS := Lib.hid (HSN.out nq)
      clear HSN HS1 q0 q1 y0 y1 y2 y3 y4 y5
      generalize World.drewN _ _ = W2 at *
      obtain ⟨y0, y1, y2, y3, y4, y5⟩ := Rx.cel6 HS.out 1 rfl
      have g0 := (HS.out.nth 0 rfl).celAt (i := 0) rfl
      go_wp2
      go_ret
      exact ⟨rfl, HS.out.pick [0] 2 rfl rfl⟩

set_option maxRecDepth 100000 in
theorem rRex_any (F : Nat → Prop) (n : Nat) (t : Rx) (cs : Array Value) (w : World) (ht : (Rx.enc n).R F w cs.toList t) :
    Calls Tryd.prog 8 #[.agg cs] w fun e w' => e = .returned (.int .i64 (Rx.err n t)) ∧ Below w.heap.size w w' := by
  obtain ⟨n', hn, vk, hcs, -, hok, hk⟩ := Rx.opened ht
  obtain ⟨a0, a1, a2, a3, hws⟩ := Cs.okFour hok
  have hcs2 : cs = #[.int .i64 t.kind, .int .u64 a0, .int .u64 a1, .int .u64 a2, .int .u64 a3, vk] := by
    apply Array.toList_inj.1
    rw [hcs, Rx.cel, hws]; rfl
  subst hcs2
  obtain ⟨ak, bk, ok, ck, rfl, -, -, -⟩ := Rx.kidsAt hk
  have hst := ((St.init w).alloc #[.int .i64 t.kind, .int .u64 a0, .int .u64 a1, .int .u64 a2, .int .u64 a3, .slice ak t.kids.length ck] 27).alloc #[.int .i64 0] 3
  simp only [World.size_alloc] at hst
  have HC := Lib.hid (rRexAt_any w F n t _ 1 0 (w.heap.size + 1) _ _ ht ⟨by decide, by decide⟩ (by decide) (by decide) hst)
  have HE := Lib.hid (show (Rx.chk n t 1 0).1 = Rx.err n t from rfl)
  generalize Rx.chk n t 1 0 = R at *
  clear hst ht hcs hok hws hk hn
  go_enter Tryd.func8, Tryd.ntmps8
  go_wp2_with (fail)
  go_at_call 27
  refine (HC.out).mono ?_
  rintro e w1 ⟨rfl, hst1⟩
  have HST := Lib.hid hst1
  clear hst1
  rw [HE.out]
  go_wp2
  go_ret
  exact ⟨rfl, HST.out.bel⟩
end Go.Proofs.YtfelikfppjlcmaaDoor

/-
  RexMatches: the law's walk .
-/
namespace Go.Proofs.YtfelikfppjlcmaaDoor
set_option linter.unusedVariables false
set_option linter.unusedSimpArgs false
open Go.ChangeShapes Go.WideShapes Go.ChangeAt Go.RowKit

set_option maxRecDepth 100000 in
set_option maxHeartbeats 1600000 in
theorem rexMatches_walk (n : Nat) (t : Rx) (cs : Array Value) (s : ByteArray) (hs : s.size ≤ 140737488355328) (w : World) (hT : Tz.Tab w) (ht : (Rx.enc n).R (fun b => b < w.heap.size) w cs.toList t) :
    Calls Tryd.prog 3 #[.agg cs, .string s] w fun e w' => e = .returned (.bool true) ∧ Below w.heap.size w w' := by
  obtain ⟨n', hn, vk, hcs, -, hok, hk⟩ := Rx.opened ht
  obtain ⟨a0, a1, a2, a3, hws⟩ := Cs.okFour hok
  have hcs2 : cs = #[.int .i64 t.kind, .int .u64 a0, .int .u64 a1, .int .u64 a2, .int .u64 a3, vk] := by
    apply Array.toList_inj.1
    rw [hcs, Rx.cel, hws]; rfl
  subst hcs2
  obtain ⟨ak, bk, ok, ck, rfl, -, -, -⟩ := Rx.kidsAt hk
  have HST := Lib.hid ((St.init w).alloc #[.int .i64 t.kind, .int .u64 a0, .int .u64 a1, .int .u64 a2, .int .u64 a3, .slice ak t.kids.length ck] 27)
  have HM := Lib.hid (fun W' (h : Below w.heap.size w W') => rexMatches_any n t _ s hs w W' h hT _ (fun b hb => hb) ht)
  have HR := Lib.hid (fun W' (h : Below w.heap.size w W') => rRex_any (fun b => b < w.heap.size) n t _ W' (Enc.mono (Rx.enc n) ht (fun _ h => h) (fun b hb => h.block b hb)))
  have HQ := Lib.hid (fun (h60 : s.size ≤ 60) (he : Rx.err n t = 0) W' (h : Below w.heap.size w W') => rMatches_any n t _ s (by omega) w W' h _ (fun b hb => hb) ht (Rx.err_good he).1)
  clear ht hcs hok hws hk hT hn
  by_cases hE : Rx.err n t = 0
  · by_cases hl : 200 < s.size
    · have hlI : (s.size : Int) > 200 := by omega
      have hlI2 : decide ((s.size : Int) > 200) = true := decide_eq_true hlI
      rw [show Rm.ans n t s = (false, 2) by unfold Rm.ans; rw [if_pos hE, if_pos hl]] at HM
      rw [hE] at HR
      clear HQ hE
      generalize t.kind = kd at *
      generalize t.kids.length = nk at *
      go_enter Tryd.func3, Tryd.ntmps3
      obtain ⟨y0, y1, y2, y3, y4, y5⟩ := Rx.cel6 HST.out 0 rfl
      go_wp2_with (fail)
      go_at_call 7
      refine (HM.out _ HST.out.bel).mono ?_
      rintro e w1 ⟨rfl, hb1⟩
      have HST := Lib.hid (HST.out.call hb1)
      clear hb1 y0 y1 y2 y3 y4 y5
      obtain ⟨y0, y1, y2, y3, y4, y5⟩ := Rx.cel6 HST.out 0 rfl
      go_wp2_with (fail)
      go_at_call 8
      refine (HR.out _ HST.out.bel).mono ?_
      rintro e w2 ⟨rfl, hb2⟩
      have HST := Lib.hid (HST.out.call hb2)
      clear hb2 y0 y1 y2 y3 y4 y5
      obtain ⟨y0, y1, y2, y3, y4, y5⟩ := Rx.cel6 HST.out 0 rfl
      go_wp2
      go_ret
      exact ⟨rfl, HST.out.bel⟩
    · have hlI : ¬ (s.size : Int) > 200 := by omega
      have hlI2 : decide ((s.size : Int) > 200) = false := decide_eq_false hlI
      rw [show Rm.ans n t s = (Rm.mt s.size (Rm.bt s) n t 0 s.size, 0) by unfold Rm.ans; rw [if_pos hE, if_neg hl]] at HM
      rw [hE] at HR
      have HQ2 := Lib.hid (fun h60 => HQ.out h60 hE)
      clear HQ hE
      obtain ⟨m, hm⟩ : ∃ m, Rm.mt s.size (Rm.bt s) n t 0 s.size = m := ⟨_, rfl⟩
      rw [hm] at HM HQ2
      clear hm
      generalize t.kind = kd at *
      generalize t.kids.length = nk at *
      by_cases h6 : 60 < s.size
      · have h6I : (s.size : Int) > 60 := by omega
        have h6J : decide ((s.size : Int) > 60) = true := decide_eq_true h6I
        go_enter Tryd.func3, Tryd.ntmps3
        obtain ⟨y0, y1, y2, y3, y4, y5⟩ := Rx.cel6 HST.out 0 rfl
        go_wp2_with (fail)
        go_at_call 7
        refine (HM.out _ HST.out.bel).mono ?_
        rintro e w1 ⟨rfl, hb1⟩
        have HST := Lib.hid (HST.out.call hb1)
        clear hb1 y0 y1 y2 y3 y4 y5
        obtain ⟨y0, y1, y2, y3, y4, y5⟩ := Rx.cel6 HST.out 0 rfl
        go_wp2_with (fail)
        go_at_call 8
        refine (HR.out _ HST.out.bel).mono ?_
        rintro e w2 ⟨rfl, hb2⟩
        have HST := Lib.hid (HST.out.call hb2)
        clear hb2 y0 y1 y2 y3 y4 y5
        obtain ⟨y0, y1, y2, y3, y4, y5⟩ := Rx.cel6 HST.out 0 rfl
        go_wp2
        go_ret
        exact ⟨rfl, HST.out.bel⟩
      · have h6I : ¬ (s.size : Int) > 60 := by omega
        have h6J : decide ((s.size : Int) > 60) = false := decide_eq_false h6I
        have HQ3 := Lib.hid (HQ2.out (by omega))
        go_enter Tryd.func3, Tryd.ntmps3
        obtain ⟨y0, y1, y2, y3, y4, y5⟩ := Rx.cel6 HST.out 0 rfl
        go_wp2_with (fail)
        go_at_call 7
        refine (HM.out _ HST.out.bel).mono ?_
        rintro e w1 ⟨rfl, hb1⟩
        have HST := Lib.hid (HST.out.call hb1)
        clear hb1 y0 y1 y2 y3 y4 y5
        obtain ⟨y0, y1, y2, y3, y4, y5⟩ := Rx.cel6 HST.out 0 rfl
        go_wp2_with (fail)
        go_at_call 8
        refine (HR.out _ HST.out.bel).mono ?_
        rintro e w2 ⟨rfl, hb2⟩
        have HST := Lib.hid (HST.out.call hb2)
        clear hb2 y0 y1 y2 y3 y4 y5
        obtain ⟨y0, y1, y2, y3, y4, y5⟩ := Rx.cel6 HST.out 0 rfl
        go_wp2_with (fail)
        go_at_call 9
        refine (HQ3.out _ HST.out.bel).mono ?_
        rintro e w4 ⟨rfl, hb4⟩
        have HST := Lib.hid (HST.out.call hb4)
        clear hb4 y0 y1 y2 y3 y4 y5
        go_wp2
        go_ret
        exact ⟨by simp, HST.out.bel⟩
  · obtain ⟨E, hEE⟩ : ∃ E, Rx.err n t = E := ⟨_, rfl⟩
    rw [show Rm.ans n t s = (false, Rx.err n t) by unfold Rm.ans; rw [if_neg hE]] at HM
    rw [hEE] at HM HR hE
    have hne : (E != 0) = true := by rw [bne_iff_ne]; exact hE
    have hne2 : (E == 0) = false := by rw [beq_eq_false_iff_ne]; exact hE
    clear HQ hEE
    generalize t.kind = kd at *
    generalize t.kids.length = nk at *
    go_enter Tryd.func3, Tryd.ntmps3
    obtain ⟨y0, y1, y2, y3, y4, y5⟩ := Rx.cel6 HST.out 0 rfl
    go_wp2_with (fail)
    go_at_call 7
    refine (HM.out _ HST.out.bel).mono ?_
    rintro e w1 ⟨rfl, hb1⟩
    have HST := Lib.hid (HST.out.call hb1)
    clear hb1 y0 y1 y2 y3 y4 y5
    obtain ⟨y0, y1, y2, y3, y4, y5⟩ := Rx.cel6 HST.out 0 rfl
    go_wp2_with (fail)
    go_at_call 8
    refine (HR.out _ HST.out.bel).mono ?_
    rintro e w2 ⟨rfl, hb2⟩
    have HST := Lib.hid (HST.out.call hb2)
    clear hb2 y0 y1 y2 y3 y4 y5
    obtain ⟨y0, y1, y2, y3, y4, y5⟩ := Rx.cel6 HST.out 0 rfl
    go_wp2
    go_ret
    exact ⟨by simp, HST.out.bel⟩

theorem rexMatches_law {t : Rx} {A : Array Value} {s : ByteArray} (W : World) (hT : Tz.Tab W) (hs : s.size ≤ 140737488355328) (h : Rd Rx.any (fun b => b < W.heap.size) W (.agg A) t) :
    Calls Tryd.prog 3 #[.agg A, .string s] W fun e w' => e = .returned (.bool true) ∧ Below W.heap.size W w' := by
  obtain ⟨n, hn⟩ := h
  exact rexMatches_walk n t A s hs W hT hn
end Go.Proofs.YtfelikfppjlcmaaDoor
