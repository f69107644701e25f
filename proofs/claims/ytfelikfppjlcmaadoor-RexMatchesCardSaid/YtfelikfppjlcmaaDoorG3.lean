/-
  Parts of the proof of RexMatches, put together: RmNumber ConvOwn RctChar CsBits CsPop Tz ClsNot ClsBytes ClsCount ClsClo RcItems RmEach RmFits. (Helper texts.)
-/
import Derived.Test.YtfelikfppjlcmaaDoorG1
import Derived.Test.YtfelikfppjlcmaaDoorG2
import Derived.Deep.LoopGhost
import Derived.Deep.QuietTactic
import Derived.BigQuiet
import Derived.Deep.RegionHeld
import Derived.Lib.TrailingZeros
import Derived.Lib.LaidTab
import Derived.LaidMore
import Derived.Laws.Bits64b
import Derived.Laws.CopyOwn
import Derived.Lib.ConvBytes

/-
  number of package rex: the nodes of a regular expression, numbered.
-/
namespace Go.Proofs.YtfelikfppjlcmaaDoor
set_option linter.unusedVariables false
set_option linter.unusedSimpArgs false
open Go.ChangeShapes Go.WideShapes Go.ChangeAt Go.RowKit

theorem Nm.E : ET Tryd.prog 62 64 8 96 := ET.mk' Tryd.underlying62 (z := .agg #[.int .i64 0, .int .u64 0, .int .u64 0, .int .u64 0, .int .u64 0, .slice none 0 0, .int .i64 0, .slice none 0 0]) (by kernel_rfl) rfl (by decide)
theorem Nm.info : (Tryd.prog.info? 64).map (·.size) = some 8 := by kernel_rfl
theorem Nm.cel8 {w0 w : World} {μ : List Asrt} {g : Nat} {T : TypeId} {v0 v1 v2 v3 v4 v5 v6 v7 : Value} (h : St w0 w μ) (i : Nat) (hA : μ[i]? = some (aCel g T #[v0, v1, v2, v3, v4, v5, v6, v7])) :
    w.cell? ⟨g, 0, none⟩ = some v0 ∧ w.cell? ⟨g, 1, none⟩ = some v1 ∧ w.cell? ⟨g, 2, none⟩ = some v2 ∧ w.cell? ⟨g, 3, none⟩ = some v3 ∧ w.cell? ⟨g, 4, none⟩ = some v4 ∧ w.cell? ⟨g, 5, none⟩ = some v5 ∧ w.cell? ⟨g, 6, none⟩ = some v6 ∧ w.cell? ⟨g, 7, none⟩ = some v7 := by
  have h1 := h.nth i hA
  exact ⟨h1.celAt rfl, h1.celAt rfl, h1.celAt rfl, h1.celAt rfl, h1.celAt rfl, h1.celAt rfl, h1.celAt rfl, h1.celAt rfl⟩

theorem Nm.kidExpl {q : Nm.K4} (h : Nm.KidOk q) : ∃ (p0 p1 p2 p3 : Nat) (a : Option Addr) (l c : Nat) (a' : Option Addr) (l' c' : Nat), q.2.2.1 = .slice a' l' c' ∧ Nm.kidV q = .agg #[.int .i64 q.1.1.kind, .int .u64 p0, .int .u64 p1, .int .u64 p2, .int .u64 p3, .slice a l c, .int .i64 q.1.2, .slice a' l' c'] := by
  obtain ⟨h0, ⟨a, l, c, h1⟩, a', l', c', h2⟩ := h
  obtain ⟨p0, p1, p2, p3, hw⟩ := Cs.okFour h0
  exact ⟨p0, p1, p2, p3, a, l, c, a', l', c', h2, by unfold Nm.kidV Nm.cel; rw [hw, h1, h2]; rfl⟩

def Nm.Ret (w0 : World) (f : Nat) (t : Rx) (b b2 g : Nat) (μ : List Asrt) (e : Ending) (w' : World) : Prop := ∃ (q : Nm.K4), q.1 = (t, b) ∧ Nm.KidOk q ∧ e = .returned (Nm.kidV q) ∧ St w0 w' (Nm.kidA f q :: aCel g 3 #[.int .i64 (b2 : Int)] :: μ)

set_option maxRecDepth 100000 in
set_option maxHeartbeats 4000000 in
theorem number_any (w0 : World) (F : Nat → Prop) :
    ∀ (f : Nat) (t : Rx) (cs : Array Value) (b g : Nat) (μ : List Asrt) (w : World), (Rx.enc f).R F w0 cs.toList t → b + Rx.cnt f t ≤ 100 → St w0 w (aCel g 3 #[.int .i64 b] :: μ) →
      Calls Tryd.prog 26 #[.agg cs, .pointer (some ⟨g, 0, none⟩)] w (Nm.Ret w0 f t b (b + Rx.cnt f t) g μ) := by
  intro f
  induction f with
  | zero => intro t cs b g μ w h; exact h.elim
  | succ n ih =>
    intro t cs b g μ w ht hc hst
    obtain ⟨n', hn, vk, hcs, ⟨hk0, hk1⟩, hok, hk⟩ := Rx.opened ht
    obtain rfl : n = n' := by omega
    obtain ⟨a0, a1, a2, a3, hws⟩ := Cs.okFour hok
    have hcs2 : cs = #[.int .i64 t.kind, .int .u64 a0, .int .u64 a1, .int .u64 a2, .int .u64 a3, vk] := by
      apply Array.toList_inj.1
      rw [hcs, Rx.cel, hws]; rfl
    subst hcs2
    obtain ⟨ak, bk, ok, ck, rfl, hkl, k3, k4⟩ := Rx.kidsAt hk
    rw [Nm.cnt_kids] at hc ⊢
    have hbig := ((hst.alloc #[.int .i64 t.kind, .int .u64 a0, .int .u64 a1, .int .u64 a2, .int .u64 a3, .slice ak t.kids.length ck] 27).alloc #[.int .i64 0, .int .u64 0, .int .u64 0, .int .u64 0, .int .u64 0, .slice none 0 0, .int .i64 0, .slice none 0 0] 64).drew
    simp only [World.size_alloc] at hbig
    have HST := Lib.hid hbig
    have HWS := Lib.hid hws
    have HOK := Lib.hid hok
    have K3 := Lib.hid k3; have K4 := Lib.hid k4; have IH := Lib.hid ih
    clear hbig hst k3 k4 ih hk ht hcs hok hws hn
    have HPT := Lib.hid (rfl : t.kids = t.kids)
    obtain ⟨kd, hkd⟩ : ∃ x, t.kind = x := ⟨_, rfl⟩
    obtain ⟨ks, hks⟩ : ∃ x, t.kids = x := ⟨_, rfl⟩
    rw [hks] at hkl K3 K4 HST hc ⊢
    rw [hkd] at HST hk0 hk1 ⊢
    have HKD := Lib.hid hkd; have HKS := Lib.hid hks
    clear hkd hks HPT
    have hks100 : ks.length ≤ 100 := by have := Nm.len_le n ks; omega
    obtain ⟨y0, y1, y2, y3, y4, y5⟩ := Rx.cel6 HST.out 1 rfl
    have x0 := (HST.out.nth 2 rfl).celAt (i := 0) rfl
    have HN := Lib.hid (St.init ((w.alloc (.cells #[.int .i64 kd, .int .u64 a0, .int .u64 a1, .int .u64 a2, .int .u64 a3, .slice ak ks.length ck] 27)).alloc (.cells #[.int .i64 0, .int .u64 0, .int .u64 0, .int .u64 0, .int .u64 0, .slice none 0 0, .int .i64 0, .slice none 0 0] 64)).drew)
    go_enter Tryd.func26, Tryd.ntmps26
    go_wp2_with (fail)
    refine wp_region_held_drew (S := (fun w' => w'.cell? ⟨w.heap.size, 0, none⟩ = some (.int .i64 kd) ∧ w'.cell? ⟨w.heap.size, 1, none⟩ = some (.int .u64 a0) ∧ w'.cell? ⟨w.heap.size, 2, none⟩ = some (.int .u64 a1) ∧ w'.cell? ⟨w.heap.size, 3, none⟩ = some (.int .u64 a2) ∧ w'.cell? ⟨w.heap.size, 4, none⟩ = some (.int .u64 a3) ∧ w'.cell? ⟨w.heap.size, 5, none⟩ = some (.slice ak ks.length ck) ∧ w'.cell? ⟨g, 0, none⟩ = some (.int .i64 b))) (by kernel_rfl) ?_ (fun hHeld => ?_)
    · (try dsimp only); (exact ⟨bkeep HN.out.bel y0, bkeep HN.out.bel y1, bkeep HN.out.bel y2, bkeep HN.out.bel y3, bkeep HN.out.bel y4, bkeep HN.out.bel y5, bkeep HN.out.bel x0⟩)

    refine wpAnyH_take (i := 0) (v := ?_) rfl (by kernel_rfl) (by kernel_rfl) (by kernel_rfl) (fun _ _ _ h => h) (Or.inl ⟨by rfl, ?_⟩) (by assumption) ?_
    rotate_left; focus (intro w hSw; (try dsimp only at hSw); go_simp; try (with_reducible rfl); done)
    try simp only [List.getElem_toArray, List.getElem_cons_zero, List.getElem_cons_succ, Act.put, List.setIfInBounds_toArray, List.set_cons_zero, List.set_cons_succ]
    refine wpAnyH_take (i := 1) (v := ?_) rfl (by kernel_rfl) (by kernel_rfl) (by kernel_rfl) (fun _ _ _ h => h) (Or.inl ⟨by rfl, ?_⟩) (by assumption) ?_
    rotate_left; focus (intro w hSw; (try dsimp only at hSw); go_simp; try (with_reducible rfl); done)
    try simp only [List.getElem_toArray, List.getElem_cons_zero, List.getElem_cons_succ, Act.put, List.setIfInBounds_toArray, List.set_cons_zero, List.set_cons_succ]
    refine wpAnyH_take (i := 2) (v := ?_) rfl (by kernel_rfl) (by kernel_rfl) (by kernel_rfl) (fun _ _ _ h => h) (Or.inl ⟨by rfl, ?_⟩) (by assumption) ?_
    rotate_left; focus (intro w hSw; (try dsimp only at hSw); go_simp; try (with_reducible rfl); done)
    try simp only [List.getElem_toArray, List.getElem_cons_zero, List.getElem_cons_succ, Act.put, List.setIfInBounds_toArray, List.set_cons_zero, List.set_cons_succ]
    refine wpAnyH_take (i := 3) (v := ?_) rfl (by kernel_rfl) (by kernel_rfl) (by kernel_rfl) (fun _ _ _ h => h) (Or.inl ⟨by rfl, ?_⟩) (by assumption) ?_
    rotate_left; focus (intro w hSw; (try dsimp only at hSw); go_simp; try (with_reducible rfl); done)
    try simp only [List.getElem_toArray, List.getElem_cons_zero, List.getElem_cons_succ, Act.put, List.setIfInBounds_toArray, List.set_cons_zero, List.set_cons_succ]
    refine wpAnyH_take (i := 4) (v := ?_) rfl (by kernel_rfl) (by kernel_rfl) (by kernel_rfl) (fun _ _ _ h => h) (Or.inl ⟨by rfl, ?_⟩) (by assumption) ?_
    rotate_left; focus (intro w hSw; (try dsimp only at hSw); go_simp; try (with_reducible rfl); done)
    try simp only [List.getElem_toArray, List.getElem_cons_zero, List.getElem_cons_succ, Act.put, List.setIfInBounds_toArray, List.set_cons_zero, List.set_cons_succ]
    refine wpAnyH_ready (rs := [5]) (by kernel_rfl) (by simp) ?_
    refine AllReadyH.cons rfl (fun K hK => ?_) AllReadyH.nil
    (refine Cp.stepAlloc (T := 64) (cs := #[.int .i64 0, .int .u64 0, .int .u64 0, .int .u64 0, .int .u64 0, .slice none 0 0, .int .i64 0, .slice none 0 0]) rfl rfl (by intro u; kernel_rfl) HN.out ?_; intro g5 w5 hst5; have HN := Lib.hid hst5; clear hst5)
    refine hK.out _ _ ?_ (fun hHeld => ?_)
    · (try dsimp only); (exact ⟨bkeep HN.out.bel y0, bkeep HN.out.bel y1, bkeep HN.out.bel y2, bkeep HN.out.bel y3, bkeep HN.out.bel y4, bkeep HN.out.bel y5, bkeep HN.out.bel x0⟩)
    clear hK K
    try simp only [List.getElem_toArray, List.getElem_cons_zero, List.getElem_cons_succ, Act.put, List.setIfInBounds_toArray, List.set_cons_zero, List.set_cons_succ]
    refine wpAnyH_ready (rs := [6]) (by kernel_rfl) (by simp) ?_
    refine AllReadyH.cons rfl (fun K hK => ?_) AllReadyH.nil
    (refine St.stepRow rfl 64 (.tmp 5) (.tmp 12) rfl g5 #[.int .i64 kd, .int .u64 a0, .int .u64 a1, .int .u64 a2, .int .u64 a3, .slice ak ks.length ck, .int .i64 b, .slice none 0 0] rfl rfl HN.out Nm.info rfl (by simp [Value.oneCell']) ?_; intro w5 hst5; have HN := Lib.hid hst5; clear hst5)
    refine hK.out _ _ ?_ (fun hHeld => ?_)
    · (try dsimp only); (exact ⟨bkeep HN.out.bel y0, bkeep HN.out.bel y1, bkeep HN.out.bel y2, bkeep HN.out.bel y3, bkeep HN.out.bel y4, bkeep HN.out.bel y5, bkeep HN.out.bel x0⟩)
    clear hK K
    try simp only [List.getElem_toArray, List.getElem_cons_zero, List.getElem_cons_succ, Act.put, List.setIfInBounds_toArray, List.set_cons_zero, List.set_cons_succ]
    refine wpAnyH_done (by kernel_rfl) ?_ _
    have HST := Lib.hid ((HST.out.join HN.out).pick [3, 0, 1, 2] 4 rfl rfl)
    clear HN x0 y0 y1 y2 y3 y4 y5
    have x0 := (HST.out.nth 0 rfl).celAt (i := 0) rfl
    have xf := (HST.out.nth 0 rfl).celFree 0
    have hst2 := HST.out.setCel 0 (.int .i64 ((b : Int) + 1))
    have hst3 := (hst2.nilOwn 64 8).nilAll.get2
    have HST := Lib.hid (show St w0 _ (aOwn 64 8 (.slice none 0 0) (([] : List Nm.K4).map Nm.kidV) :: aAll (([] : List Nm.K4).map (Nm.kidA n)) :: aCel g 3 #[.int .i64 ((b : Int) + 1)] :: aCel g5 64 #[.int .i64 kd, .int .u64 a0, .int .u64 a1, .int .u64 a2, .int .u64 a3, .slice ak ks.length ck, .int .i64 b, .slice none 0 0] :: aCel (w.heap.size + 1) 64 #[.int .i64 0, .int .u64 0, .int .u64 0, .int .u64 0, .int .u64 0, .slice none 0 0, .int .i64 0, .slice none 0 0] :: aCel w.heap.size 27 #[.int .i64 kd, .int .u64 a0, .int .u64 a1, .int .u64 a2, .int .u64 a3, .slice ak ks.length ck] :: μ) from hst3)
    have y5 := (HST.out.nth 5 rfl).celAt (i := 5) rfl
    clear hst2 hst3
    go_wp2_with (fail)
    go_loopg [21] ks.length (fun gz v21 wr => ∃ (i : Nat) (L : List Nm.K4) (ao' : Option Addr) (n' c' : Nat), i ≤ ks.length ∧ gz = ks.length - i ∧ v21 = .int .i64 i ∧ Hid (L.length = i ∧ L.map (·.1) = Nm.kidsB n (ks.take i) (b + 1) ∧ ∀ q ∈ L, Nm.KidOk q) ∧ St w0 wr (aOwn 64 8 (.slice ao' n' c') (L.map Nm.kidV) :: aAll (L.map (Nm.kidA n)) :: aCel g 3 #[.int .i64 ((b + 1 + Nm.sumK n (ks.take i) : Nat) : Int)] :: aCel g5 64 #[.int .i64 kd, .int .u64 a0, .int .u64 a1, .int .u64 a2, .int .u64 a3, .slice ak ks.length ck, .int .i64 b, .slice ao' n' c'] :: aCel (w.heap.size + 1) 64 #[.int .i64 0, .int .u64 0, .int .u64 0, .int .u64 0, .int .u64 0, .slice none 0 0, .int .i64 0, .slice none 0 0] :: aCel w.heap.size 27 #[.int .i64 kd, .int .u64 a0, .int .u64 a1, .int .u64 a2, .int .u64 a3, .slice ak ks.length ck] :: μ))
    case atStart => exact ⟨0, [], none, 0, 0, by omega, by omega, rfl, Lib.hid ⟨rfl, rfl, fun q hq => absurd hq List.not_mem_nil⟩, HST.out⟩
    case round =>
      clear HST x0 xf y5
      obtain ⟨i, L, ao', n', c', hi, hgz, rfl, HL, hst⟩ := hrel
      have HGZ := Lib.hid hgz
      clear hgz
      by_cases hlt : i < ks.length
      · have hltI : (i : Int) < ks.length := by omega
        obtain ⟨rfl, -, -⟩ := K3.out (by omega)
        obtain ⟨b0, b1, b2, b3, ax, cx, -, e0, e1, e2, e3, e4, e5, hen⟩ := K4.out i hlt
        have c0 := bkeep hst.bel e0; have c1 := bkeep hst.bel e1; have c2 := bkeep hst.bel e2; have c3 := bkeep hst.bel e3; have c4 := bkeep hst.bel e4; have c5 := bkeep hst.bel e5
        have hsm : Nm.sumK n (ks.take (i + 1)) = Nm.sumK n (ks.take i) + Rx.cnt n (ks.getD i Rx.nil) := by
          rw [List.take_add_one, List.getElem?_eq_getElem hlt, show ks.getD i Rx.nil = ks[i] by simp [List.getD, List.getElem?_eq_getElem hlt]]
          exact Nm.sumK_snoc n _ _
        have hkb : Nm.kidsB n (ks.take (i + 1)) (b + 1) = Nm.kidsB n (ks.take i) (b + 1) ++ [(ks.getD i Rx.nil, b + 1 + Nm.sumK n (ks.take i))] := by
          rw [List.take_add_one, List.getElem?_eq_getElem hlt, show ks.getD i Rx.nil = ks[i] by simp [List.getD, List.getElem?_eq_getElem hlt], Nm.kidsB_app]
          rfl
        have hle := Nm.sumK_le n ks (i + 1)
        have HSM := Lib.hid hsm; have HKB := Lib.hid hkb
        have HC := Lib.hid (fun W hW => IH.out (ks.getD i Rx.nil) #[.int .i64 (ks.getD i Rx.nil).kind, .int .u64 b0, .int .u64 b1, .int .u64 b2, .int .u64 b3, .slice ax (ks.getD i Rx.nil).kids.length cx] (b + 1 + Nm.sumK n (ks.take i)) g (aOwn 64 8 (.slice ao' n' c') (L.map Nm.kidV) :: aAll (L.map (Nm.kidA n)) :: aCel g5 64 #[.int .i64 kd, .int .u64 a0, .int .u64 a1, .int .u64 a2, .int .u64 a3, .slice (some ⟨bk, ok, none⟩) ks.length ck, .int .i64 b, .slice ao' n' c'] :: aCel wr.heap.size 27 #[.int .i64 (ks.getD i Rx.nil).kind, .int .u64 b0, .int .u64 b1, .int .u64 b2, .int .u64 b3, .slice ax (ks.getD i Rx.nil).kids.length cx] :: aCel (w.heap.size + 1) 64 #[.int .i64 0, .int .u64 0, .int .u64 0, .int .u64 0, .int .u64 0, .slice none 0 0, .int .i64 0, .slice none 0 0] :: aCel w.heap.size 27 #[.int .i64 kd, .int .u64 a0, .int .u64 a1, .int .u64 a2, .int .u64 a3, .slice (some ⟨bk, ok, none⟩) ks.length ck] :: μ) W hen (by omega) hW)
        have hstA := (hst.alloc #[.int .i64 (ks.getD i Rx.nil).kind, .int .u64 b0, .int .u64 b1, .int .u64 b2, .int .u64 b3, .slice ax (ks.getD i Rx.nil).kids.length cx] 27).drew
        have HST := Lib.hid (hstA.pick [3, 1, 2, 4, 0] 5 rfl rfl)
        clear hst hstA e0 e1 e2 e3 e4 e5 hen hsm hkb hle
        rw [show b + 1 + Nm.sumK n (ks.take i) + Rx.cnt n (ks.getD i Rx.nil) = b + 1 + Nm.sumK n (ks.take (i + 1)) by rw [HSM.out, Nat.add_assoc]] at HC
        generalize (ks.getD i Rx.nil).kids.length = nx at *
        generalize hkk : (ks.getD i Rx.nil).kind = kdk at *
        clear hkk
        obtain ⟨z0, z1, z2, z3, z4, z5⟩ := Rx.cel6 HST.out 4 rfl
        have z7 := (Nm.cel8 HST.out 3 rfl).2.2.2.2.2.2.2
        have hLl : L.length ≤ 100 := by have := HL.out.1; omega
        go_wp2_with (fail)
        refine wp_region_held_drew (S := (fun w' => w'.cell? ⟨wr.heap.size, 0, none⟩ = some (.int .i64 kdk) ∧ w'.cell? ⟨wr.heap.size, 1, none⟩ = some (.int .u64 b0) ∧ w'.cell? ⟨wr.heap.size, 2, none⟩ = some (.int .u64 b1) ∧ w'.cell? ⟨wr.heap.size, 3, none⟩ = some (.int .u64 b2) ∧ w'.cell? ⟨wr.heap.size, 4, none⟩ = some (.int .u64 b3) ∧ w'.cell? ⟨wr.heap.size, 5, none⟩ = some (.slice ax nx cx))) (by kernel_rfl) ?_ (fun hHeld => ?_)
        · (try dsimp only); (first | exact ⟨z0, z1, z2, z3, z4, z5⟩ | exact ⟨z0b, z1b, z2b, z3b, z4b, z5b⟩ | exact ⟨z0c, z1c, z2c, z3c, z4c, z5c⟩ | exact ⟨z0d, z1d, z2d, z3d, z4d, z5d⟩ | exact ⟨bkeep ((Below.refl _ _).alloc (Nat.le_refl _) _) z0b, bkeep ((Below.refl _ _).alloc (Nat.le_refl _) _) z1b, bkeep ((Below.refl _ _).alloc (Nat.le_refl _) _) z2b, bkeep ((Below.refl _ _).alloc (Nat.le_refl _) _) z3b, bkeep ((Below.refl _ _).alloc (Nat.le_refl _) _) z4b, bkeep ((Below.refl _ _).alloc (Nat.le_refl _) _) z5b⟩)

        refine wpAnyH_take (i := 0) (v := ?_) rfl (by kernel_rfl) (by kernel_rfl) (by kernel_rfl) (fun _ _ _ h => h) (Or.inl ⟨by rfl, ?_⟩) (by assumption) ?_
        rotate_left; focus (intro w hSw; (try dsimp only at hSw); go_simp; try (with_reducible rfl); done)
        try simp only [List.getElem_toArray, List.getElem_cons_zero, List.getElem_cons_succ, Act.put, List.setIfInBounds_toArray, List.set_cons_zero, List.set_cons_succ]
        refine wpAnyH_take (i := 2) (v := ?_) rfl (by kernel_rfl) (by kernel_rfl) (by kernel_rfl) (fun _ _ _ h => h) (Or.inl ⟨by rfl, ?_⟩) (by assumption) ?_
        rotate_left; focus (intro w hSw; (try dsimp only at hSw); go_simp; try (with_reducible rfl); done)
        try simp only [List.getElem_toArray, List.getElem_cons_zero, List.getElem_cons_succ, Act.put, List.setIfInBounds_toArray, List.set_cons_zero, List.set_cons_succ]
        refine wpAnyH_take (i := 3) (v := ?_) rfl (by kernel_rfl) (by kernel_rfl) (by kernel_rfl) (fun _ _ _ h => h) (Or.inl ⟨by rfl, ?_⟩) (by assumption) ?_
        rotate_left; focus (intro w hSw; (try dsimp only at hSw); go_simp; try (with_reducible rfl); done)
        try simp only [List.getElem_toArray, List.getElem_cons_zero, List.getElem_cons_succ, Act.put, List.setIfInBounds_toArray, List.set_cons_zero, List.set_cons_succ]
        refine wpAnyH_ready (rs := [1, 4]) (by kernel_rfl) (by simp) ?_
        refine AllReadyH.cons rfl (fun K hK => ?_) (AllReadyH.cons rfl (fun K hK => ?_) (AllReadyH.nil))
        · skip
          go_simp
          refine hK.out _ _ ?_ (fun hHeld => ?_)
          · (try dsimp only); (first | exact ⟨z0, z1, z2, z3, z4, z5⟩ | exact ⟨z0b, z1b, z2b, z3b, z4b, z5b⟩ | exact ⟨z0c, z1c, z2c, z3c, z4c, z5c⟩ | exact ⟨z0d, z1d, z2d, z3d, z4d, z5d⟩ | exact ⟨bkeep ((Below.refl _ _).alloc (Nat.le_refl _) _) z0b, bkeep ((Below.refl _ _).alloc (Nat.le_refl _) _) z1b, bkeep ((Below.refl _ _).alloc (Nat.le_refl _) _) z2b, bkeep ((Below.refl _ _).alloc (Nat.le_refl _) _) z3b, bkeep ((Below.refl _ _).alloc (Nat.le_refl _) _) z4b, bkeep ((Below.refl _ _).alloc (Nat.le_refl _) _) z5b⟩)
          clear hK K
          try simp only [List.getElem_toArray, List.getElem_cons_zero, List.getElem_cons_succ, Act.put, List.setIfInBounds_toArray, List.set_cons_zero, List.set_cons_succ]
          refine wpAnyH_ready (rs := [4]) (by kernel_rfl) (by simp) ?_
          refine AllReadyH.cons rfl (fun K hK => ?_) (AllReadyH.nil)
          go_simp
          (go_at_call 26; refine (HC.out _ HST.out).mono ?_; rintro e w8 ⟨q, hq1, hq2, rfl, hst8⟩; obtain ⟨p0, p1, p2, p3, va, vl, vc, ka, kl', kc, hvk, hkv⟩ := Nm.kidExpl hq2; have HKV := Lib.hid hkv; have HQ1 := Lib.hid hq1; have HQ2 := Lib.hid hq2; rw [hkv]; obtain ⟨z0b, z1b, z2b, z3b, z4b, z5b⟩ := Rx.cel6 hst8 5 rfl; have z7b := (Nm.cel8 hst8 4 rfl).2.2.2.2.2.2.2; have z7e := fun cs => bkeep ((Below.refl w8.heap.size w8).alloc (Nat.le_refl _) (.cells cs 64)) z7b; have HST8 := Lib.hid hst8; clear hst8 hq1 hq2 hkv hvk; generalize q.1.2 = qb at *; generalize q.1.1.kind = qk at *)
          refine hK.out _ _ ?_ (fun hHeld => ?_)
          · (try dsimp only); (first | exact ⟨z0, z1, z2, z3, z4, z5⟩ | exact ⟨z0b, z1b, z2b, z3b, z4b, z5b⟩ | exact ⟨z0c, z1c, z2c, z3c, z4c, z5c⟩ | exact ⟨z0d, z1d, z2d, z3d, z4d, z5d⟩ | exact ⟨bkeep ((Below.refl _ _).alloc (Nat.le_refl _) _) z0b, bkeep ((Below.refl _ _).alloc (Nat.le_refl _) _) z1b, bkeep ((Below.refl _ _).alloc (Nat.le_refl _) _) z2b, bkeep ((Below.refl _ _).alloc (Nat.le_refl _) _) z3b, bkeep ((Below.refl _ _).alloc (Nat.le_refl _) _) z4b, bkeep ((Below.refl _ _).alloc (Nat.le_refl _) _) z5b⟩)
          clear hK K
          try simp only [List.getElem_toArray, List.getElem_cons_zero, List.getElem_cons_succ, Act.put, List.setIfInBounds_toArray, List.set_cons_zero, List.set_cons_succ]
          refine wpAnyH_ready (rs := [5]) (by kernel_rfl) (by simp) ?_
          refine AllReadyH.cons rfl (fun K hK => ?_) (AllReadyH.nil)
          go_simp
          refine hK.out _ _ ?_ (fun hHeld => ?_)
          · (try dsimp only); (first | exact ⟨z0, z1, z2, z3, z4, z5⟩ | exact ⟨z0b, z1b, z2b, z3b, z4b, z5b⟩ | exact ⟨z0c, z1c, z2c, z3c, z4c, z5c⟩ | exact ⟨z0d, z1d, z2d, z3d, z4d, z5d⟩ | exact ⟨bkeep ((Below.refl _ _).alloc (Nat.le_refl _) _) z0b, bkeep ((Below.refl _ _).alloc (Nat.le_refl _) _) z1b, bkeep ((Below.refl _ _).alloc (Nat.le_refl _) _) z2b, bkeep ((Below.refl _ _).alloc (Nat.le_refl _) _) z3b, bkeep ((Below.refl _ _).alloc (Nat.le_refl _) _) z4b, bkeep ((Below.refl _ _).alloc (Nat.le_refl _) _) z5b⟩)
          clear hK K
          try simp only [List.getElem_toArray, List.getElem_cons_zero, List.getElem_cons_succ, Act.put, List.setIfInBounds_toArray, List.set_cons_zero, List.set_cons_succ]
          refine wpAnyH_ready (rs := [6]) (by kernel_rfl) (by simp) ?_
          refine AllReadyH.cons rfl (fun K hK => ?_) AllReadyH.nil
          (refine St.step1n (W := w8) (T := 64) (cs := #[.int .i64 qk, .int .u64 p0, .int .u64 p1, .int .u64 p2, .int .u64 p3, .slice va vl vc, .int .i64 qb, .slice ka kl' kc]) Nm.E rfl (.tmp 26) (.tmp 30) rfl rfl (HST8.out.pick [2, 0, 1, 3, 4, 5] 6 rfl rfl) (.agg #[.int .i64 qk, .int .u64 p0, .int .u64 p1, .int .u64 p2, .int .u64 p3, .slice va vl vc, .int .i64 qb, .slice ka kl' kc]) rfl w8.heap.size 1 rfl rfl rfl (by intro c hc; simp [Value.cells] at hc; rcases hc with rfl | rfl | rfl | rfl | rfl | rfl | rfl | rfl <;> rfl) (by rw [List.length_map]; unfold maxLen; omega) (by rw [List.length_map]; omega) ?_; intro g' n2 c2' wB hstB; obtain ⟨z0c, z1c, z2c, z3c, z4c, z5c⟩ := Rx.cel6 hstB 5 rfl; have zf := (hstB.nth 4 rfl).celFree 7; have zc := (Nm.cel8 hstB 4 rfl).2.2.2.2.2.2.2; have hstC := (hstB.pick [4, 0, 1, 2, 3, 5] 6 rfl rfl).setCel 7 (.slice (some ⟨g', 0, none⟩) n2 c2'); obtain ⟨z0d, z1d, z2d, z3d, z4d, z5d⟩ := Rx.cel6 hstC 5 rfl; have HSTC := Lib.hid hstC; clear hstB hstC)
          refine hK.out _ _ ?_ (fun hHeld => ?_)
          · (try dsimp only); (first | exact ⟨z0, z1, z2, z3, z4, z5⟩ | exact ⟨z0b, z1b, z2b, z3b, z4b, z5b⟩ | exact ⟨z0c, z1c, z2c, z3c, z4c, z5c⟩ | exact ⟨z0d, z1d, z2d, z3d, z4d, z5d⟩ | exact ⟨bkeep ((Below.refl _ _).alloc (Nat.le_refl _) _) z0b, bkeep ((Below.refl _ _).alloc (Nat.le_refl _) _) z1b, bkeep ((Below.refl _ _).alloc (Nat.le_refl _) _) z2b, bkeep ((Below.refl _ _).alloc (Nat.le_refl _) _) z3b, bkeep ((Below.refl _ _).alloc (Nat.le_refl _) _) z4b, bkeep ((Below.refl _ _).alloc (Nat.le_refl _) _) z5b⟩)
          clear hK K
          try simp only [List.getElem_toArray, List.getElem_cons_zero, List.getElem_cons_succ, Act.put, List.setIfInBounds_toArray, List.set_cons_zero, List.set_cons_succ]
          refine wpAnyH_take (i := 7) (v := ?_) rfl (by kernel_rfl) (by kernel_rfl) (by kernel_rfl) (fun _ _ _ h => h) (Or.inl ⟨by rfl, ?_⟩) (by assumption) ?_
          rotate_left; focus (intro w hSw; (try dsimp only at hSw); go_simp; try (with_reducible rfl); done)
          try simp only [List.getElem_toArray, List.getElem_cons_zero, List.getElem_cons_succ, Act.put, List.setIfInBounds_toArray, List.set_cons_zero, List.set_cons_succ]
          refine wpAnyH_ready (rs := [8]) (by kernel_rfl) (by simp) ?_
          refine AllReadyH.cons rfl (fun K hK => ?_) AllReadyH.nil
          go_simp
          refine hK.out _ _ ?_ (fun hHeld => ?_)
          · (try dsimp only); (first | exact ⟨z0, z1, z2, z3, z4, z5⟩ | exact ⟨z0b, z1b, z2b, z3b, z4b, z5b⟩ | exact ⟨z0c, z1c, z2c, z3c, z4c, z5c⟩ | exact ⟨z0d, z1d, z2d, z3d, z4d, z5d⟩ | exact ⟨bkeep ((Below.refl _ _).alloc (Nat.le_refl _) _) z0b, bkeep ((Below.refl _ _).alloc (Nat.le_refl _) _) z1b, bkeep ((Below.refl _ _).alloc (Nat.le_refl _) _) z2b, bkeep ((Below.refl _ _).alloc (Nat.le_refl _) _) z3b, bkeep ((Below.refl _ _).alloc (Nat.le_refl _) _) z4b, bkeep ((Below.refl _ _).alloc (Nat.le_refl _) _) z5b⟩)
          clear hK K
          try simp only [List.getElem_toArray, List.getElem_cons_zero, List.getElem_cons_succ, Act.put, List.setIfInBounds_toArray, List.set_cons_zero, List.set_cons_succ]
          refine wpAnyH_done (by kernel_rfl) ?_ _
          go_wp2
          go_roundg (ks.length - (i + 1))
          case measure => have := HGZ.out; omega
          case rel =>
            have h1 := (HSTC.out.pick [2, 4, 1, 3, 0] 6 rfl rfl).snoc.get2
            have hn2 : n2 = (L ++ [q]).length := by have := h1.own.len; simpa using this
            refine ⟨i + 1, L ++ [q], some ⟨g', 0, none⟩, n2, c2', by omega, rfl, by go_num, Lib.hid ⟨by simp [HL.out.1], by rw [List.map_append, HL.out.2.1, HKB.out, List.map_singleton, HQ1.out], fun x hx => ?_⟩, ?_⟩
            · rcases List.mem_append.1 hx with hx | hx
              · exact HL.out.2.2 x hx
              · rw [List.mem_singleton.1 hx]; exact HQ2.out
            · rw [List.map_append, List.map_append, List.map_singleton, List.map_singleton, HKV.out]
              exact h1
        · skip
          go_simp
          (go_at_call 26; refine (HC.out _ HST.out).mono ?_; rintro e w8 ⟨q, hq1, hq2, rfl, hst8⟩; obtain ⟨p0, p1, p2, p3, va, vl, vc, ka, kl', kc, hvk, hkv⟩ := Nm.kidExpl hq2; have HKV := Lib.hid hkv; have HQ1 := Lib.hid hq1; have HQ2 := Lib.hid hq2; rw [hkv]; obtain ⟨z0b, z1b, z2b, z3b, z4b, z5b⟩ := Rx.cel6 hst8 5 rfl; have z7b := (Nm.cel8 hst8 4 rfl).2.2.2.2.2.2.2; have z7e := fun cs => bkeep ((Below.refl w8.heap.size w8).alloc (Nat.le_refl _) (.cells cs 64)) z7b; have HST8 := Lib.hid hst8; clear hst8 hq1 hq2 hkv hvk; generalize q.1.2 = qb at *; generalize q.1.1.kind = qk at *)
          refine hK.out _ _ ?_ (fun hHeld => ?_)
          · (try dsimp only); (first | exact ⟨z0, z1, z2, z3, z4, z5⟩ | exact ⟨z0b, z1b, z2b, z3b, z4b, z5b⟩ | exact ⟨z0c, z1c, z2c, z3c, z4c, z5c⟩ | exact ⟨z0d, z1d, z2d, z3d, z4d, z5d⟩ | exact ⟨bkeep ((Below.refl _ _).alloc (Nat.le_refl _) _) z0b, bkeep ((Below.refl _ _).alloc (Nat.le_refl _) _) z1b, bkeep ((Below.refl _ _).alloc (Nat.le_refl _) _) z2b, bkeep ((Below.refl _ _).alloc (Nat.le_refl _) _) z3b, bkeep ((Below.refl _ _).alloc (Nat.le_refl _) _) z4b, bkeep ((Below.refl _ _).alloc (Nat.le_refl _) _) z5b⟩)
          clear hK K
          try simp only [List.getElem_toArray, List.getElem_cons_zero, List.getElem_cons_succ, Act.put, List.setIfInBounds_toArray, List.set_cons_zero, List.set_cons_succ]
          refine wpAnyH_ready (rs := [1, 5]) (by kernel_rfl) (by simp) ?_
          refine AllReadyH.cons rfl (fun K hK => ?_) (AllReadyH.cons rfl (fun K hK => ?_) (AllReadyH.nil))
          · skip
            go_simp
            refine hK.out _ _ ?_ (fun hHeld => ?_)
            · (try dsimp only); (first | exact ⟨z0, z1, z2, z3, z4, z5⟩ | exact ⟨z0b, z1b, z2b, z3b, z4b, z5b⟩ | exact ⟨z0c, z1c, z2c, z3c, z4c, z5c⟩ | exact ⟨z0d, z1d, z2d, z3d, z4d, z5d⟩ | exact ⟨bkeep ((Below.refl _ _).alloc (Nat.le_refl _) _) z0b, bkeep ((Below.refl _ _).alloc (Nat.le_refl _) _) z1b, bkeep ((Below.refl _ _).alloc (Nat.le_refl _) _) z2b, bkeep ((Below.refl _ _).alloc (Nat.le_refl _) _) z3b, bkeep ((Below.refl _ _).alloc (Nat.le_refl _) _) z4b, bkeep ((Below.refl _ _).alloc (Nat.le_refl _) _) z5b⟩)
            clear hK K
            try simp only [List.getElem_toArray, List.getElem_cons_zero, List.getElem_cons_succ, Act.put, List.setIfInBounds_toArray, List.set_cons_zero, List.set_cons_succ]
            refine wpAnyH_ready (rs := [5]) (by kernel_rfl) (by simp) ?_
            refine AllReadyH.cons rfl (fun K hK => ?_) (AllReadyH.nil)
            go_simp
            refine hK.out _ _ ?_ (fun hHeld => ?_)
            · (try dsimp only); (first | exact ⟨z0, z1, z2, z3, z4, z5⟩ | exact ⟨z0b, z1b, z2b, z3b, z4b, z5b⟩ | exact ⟨z0c, z1c, z2c, z3c, z4c, z5c⟩ | exact ⟨z0d, z1d, z2d, z3d, z4d, z5d⟩ | exact ⟨bkeep ((Below.refl _ _).alloc (Nat.le_refl _) _) z0b, bkeep ((Below.refl _ _).alloc (Nat.le_refl _) _) z1b, bkeep ((Below.refl _ _).alloc (Nat.le_refl _) _) z2b, bkeep ((Below.refl _ _).alloc (Nat.le_refl _) _) z3b, bkeep ((Below.refl _ _).alloc (Nat.le_refl _) _) z4b, bkeep ((Below.refl _ _).alloc (Nat.le_refl _) _) z5b⟩)
            clear hK K
            try simp only [List.getElem_toArray, List.getElem_cons_zero, List.getElem_cons_succ, Act.put, List.setIfInBounds_toArray, List.set_cons_zero, List.set_cons_succ]
            refine wpAnyH_ready (rs := [6]) (by kernel_rfl) (by simp) ?_
            refine AllReadyH.cons rfl (fun K hK => ?_) AllReadyH.nil
            (refine St.step1n (W := w8) (T := 64) (cs := #[.int .i64 qk, .int .u64 p0, .int .u64 p1, .int .u64 p2, .int .u64 p3, .slice va vl vc, .int .i64 qb, .slice ka kl' kc]) Nm.E rfl (.tmp 26) (.tmp 30) rfl rfl (HST8.out.pick [2, 0, 1, 3, 4, 5] 6 rfl rfl) (.agg #[.int .i64 qk, .int .u64 p0, .int .u64 p1, .int .u64 p2, .int .u64 p3, .slice va vl vc, .int .i64 qb, .slice ka kl' kc]) rfl w8.heap.size 1 rfl rfl rfl (by intro c hc; simp [Value.cells] at hc; rcases hc with rfl | rfl | rfl | rfl | rfl | rfl | rfl | rfl <;> rfl) (by rw [List.length_map]; unfold maxLen; omega) (by rw [List.length_map]; omega) ?_; intro g' n2 c2' wB hstB; obtain ⟨z0c, z1c, z2c, z3c, z4c, z5c⟩ := Rx.cel6 hstB 5 rfl; have zf := (hstB.nth 4 rfl).celFree 7; have zc := (Nm.cel8 hstB 4 rfl).2.2.2.2.2.2.2; have hstC := (hstB.pick [4, 0, 1, 2, 3, 5] 6 rfl rfl).setCel 7 (.slice (some ⟨g', 0, none⟩) n2 c2'); obtain ⟨z0d, z1d, z2d, z3d, z4d, z5d⟩ := Rx.cel6 hstC 5 rfl; have HSTC := Lib.hid hstC; clear hstB hstC)
            refine hK.out _ _ ?_ (fun hHeld => ?_)
            · (try dsimp only); (first | exact ⟨z0, z1, z2, z3, z4, z5⟩ | exact ⟨z0b, z1b, z2b, z3b, z4b, z5b⟩ | exact ⟨z0c, z1c, z2c, z3c, z4c, z5c⟩ | exact ⟨z0d, z1d, z2d, z3d, z4d, z5d⟩ | exact ⟨bkeep ((Below.refl _ _).alloc (Nat.le_refl _) _) z0b, bkeep ((Below.refl _ _).alloc (Nat.le_refl _) _) z1b, bkeep ((Below.refl _ _).alloc (Nat.le_refl _) _) z2b, bkeep ((Below.refl _ _).alloc (Nat.le_refl _) _) z3b, bkeep ((Below.refl _ _).alloc (Nat.le_refl _) _) z4b, bkeep ((Below.refl _ _).alloc (Nat.le_refl _) _) z5b⟩)
            clear hK K
            try simp only [List.getElem_toArray, List.getElem_cons_zero, List.getElem_cons_succ, Act.put, List.setIfInBounds_toArray, List.set_cons_zero, List.set_cons_succ]
            refine wpAnyH_take (i := 7) (v := ?_) rfl (by kernel_rfl) (by kernel_rfl) (by kernel_rfl) (fun _ _ _ h => h) (Or.inl ⟨by rfl, ?_⟩) (by assumption) ?_
            rotate_left; focus (intro w hSw; (try dsimp only at hSw); go_simp; try (with_reducible rfl); done)
            try simp only [List.getElem_toArray, List.getElem_cons_zero, List.getElem_cons_succ, Act.put, List.setIfInBounds_toArray, List.set_cons_zero, List.set_cons_succ]
            refine wpAnyH_ready (rs := [8]) (by kernel_rfl) (by simp) ?_
            refine AllReadyH.cons rfl (fun K hK => ?_) AllReadyH.nil
            go_simp
            refine hK.out _ _ ?_ (fun hHeld => ?_)
            · (try dsimp only); (first | exact ⟨z0, z1, z2, z3, z4, z5⟩ | exact ⟨z0b, z1b, z2b, z3b, z4b, z5b⟩ | exact ⟨z0c, z1c, z2c, z3c, z4c, z5c⟩ | exact ⟨z0d, z1d, z2d, z3d, z4d, z5d⟩ | exact ⟨bkeep ((Below.refl _ _).alloc (Nat.le_refl _) _) z0b, bkeep ((Below.refl _ _).alloc (Nat.le_refl _) _) z1b, bkeep ((Below.refl _ _).alloc (Nat.le_refl _) _) z2b, bkeep ((Below.refl _ _).alloc (Nat.le_refl _) _) z3b, bkeep ((Below.refl _ _).alloc (Nat.le_refl _) _) z4b, bkeep ((Below.refl _ _).alloc (Nat.le_refl _) _) z5b⟩)
            clear hK K
            try simp only [List.getElem_toArray, List.getElem_cons_zero, List.getElem_cons_succ, Act.put, List.setIfInBounds_toArray, List.set_cons_zero, List.set_cons_succ]
            refine wpAnyH_done (by kernel_rfl) ?_ _
            go_wp2
            go_roundg (ks.length - (i + 1))
            case measure => have := HGZ.out; omega
            case rel =>
              have h1 := (HSTC.out.pick [2, 4, 1, 3, 0] 6 rfl rfl).snoc.get2
              have hn2 : n2 = (L ++ [q]).length := by have := h1.own.len; simpa using this
              refine ⟨i + 1, L ++ [q], some ⟨g', 0, none⟩, n2, c2', by omega, rfl, by go_num, Lib.hid ⟨by simp [HL.out.1], by rw [List.map_append, HL.out.2.1, HKB.out, List.map_singleton, HQ1.out], fun x hx => ?_⟩, ?_⟩
              · rcases List.mem_append.1 hx with hx | hx
                · exact HL.out.2.2 x hx
                · rw [List.mem_singleton.1 hx]; exact HQ2.out
              · rw [List.map_append, List.map_append, List.map_singleton, List.map_singleton, HKV.out]
                exact h1
          · skip
            go_simp
            refine hK.out _ _ ?_ (fun hHeld => ?_)
            · (try dsimp only); (first | exact ⟨z0, z1, z2, z3, z4, z5⟩ | exact ⟨z0b, z1b, z2b, z3b, z4b, z5b⟩ | exact ⟨z0c, z1c, z2c, z3c, z4c, z5c⟩ | exact ⟨z0d, z1d, z2d, z3d, z4d, z5d⟩ | exact ⟨bkeep ((Below.refl _ _).alloc (Nat.le_refl _) _) z0b, bkeep ((Below.refl _ _).alloc (Nat.le_refl _) _) z1b, bkeep ((Below.refl _ _).alloc (Nat.le_refl _) _) z2b, bkeep ((Below.refl _ _).alloc (Nat.le_refl _) _) z3b, bkeep ((Below.refl _ _).alloc (Nat.le_refl _) _) z4b, bkeep ((Below.refl _ _).alloc (Nat.le_refl _) _) z5b⟩)
            clear hK K
            try simp only [List.getElem_toArray, List.getElem_cons_zero, List.getElem_cons_succ, Act.put, List.setIfInBounds_toArray, List.set_cons_zero, List.set_cons_succ]
            refine wpAnyH_ready (rs := [1]) (by kernel_rfl) (by simp) ?_
            refine AllReadyH.cons rfl (fun K hK => ?_) (AllReadyH.nil)
            go_simp
            refine hK.out _ _ ?_ (fun hHeld => ?_)
            · (try dsimp only); (first | exact ⟨z0, z1, z2, z3, z4, z5⟩ | exact ⟨z0b, z1b, z2b, z3b, z4b, z5b⟩ | exact ⟨z0c, z1c, z2c, z3c, z4c, z5c⟩ | exact ⟨z0d, z1d, z2d, z3d, z4d, z5d⟩ | exact ⟨bkeep ((Below.refl _ _).alloc (Nat.le_refl _) _) z0b, bkeep ((Below.refl _ _).alloc (Nat.le_refl _) _) z1b, bkeep ((Below.refl _ _).alloc (Nat.le_refl _) _) z2b, bkeep ((Below.refl _ _).alloc (Nat.le_refl _) _) z3b, bkeep ((Below.refl _ _).alloc (Nat.le_refl _) _) z4b, bkeep ((Below.refl _ _).alloc (Nat.le_refl _) _) z5b⟩)
            clear hK K
            try simp only [List.getElem_toArray, List.getElem_cons_zero, List.getElem_cons_succ, Act.put, List.setIfInBounds_toArray, List.set_cons_zero, List.set_cons_succ]
            refine wpAnyH_ready (rs := [6]) (by kernel_rfl) (by simp) ?_
            refine AllReadyH.cons rfl (fun K hK => ?_) AllReadyH.nil
            (refine St.step1n (W := w8) (T := 64) (cs := #[.int .i64 qk, .int .u64 p0, .int .u64 p1, .int .u64 p2, .int .u64 p3, .slice va vl vc, .int .i64 qb, .slice ka kl' kc]) Nm.E rfl (.tmp 26) (.tmp 30) rfl rfl (HST8.out.pick [2, 0, 1, 3, 4, 5] 6 rfl rfl) (.agg #[.int .i64 qk, .int .u64 p0, .int .u64 p1, .int .u64 p2, .int .u64 p3, .slice va vl vc, .int .i64 qb, .slice ka kl' kc]) rfl w8.heap.size 1 rfl rfl rfl (by intro c hc; simp [Value.cells] at hc; rcases hc with rfl | rfl | rfl | rfl | rfl | rfl | rfl | rfl <;> rfl) (by rw [List.length_map]; unfold maxLen; omega) (by rw [List.length_map]; omega) ?_; intro g' n2 c2' wB hstB; obtain ⟨z0c, z1c, z2c, z3c, z4c, z5c⟩ := Rx.cel6 hstB 5 rfl; have zf := (hstB.nth 4 rfl).celFree 7; have zc := (Nm.cel8 hstB 4 rfl).2.2.2.2.2.2.2; have hstC := (hstB.pick [4, 0, 1, 2, 3, 5] 6 rfl rfl).setCel 7 (.slice (some ⟨g', 0, none⟩) n2 c2'); obtain ⟨z0d, z1d, z2d, z3d, z4d, z5d⟩ := Rx.cel6 hstC 5 rfl; have HSTC := Lib.hid hstC; clear hstB hstC)
            refine hK.out _ _ ?_ (fun hHeld => ?_)
            · (try dsimp only); (first | exact ⟨z0, z1, z2, z3, z4, z5⟩ | exact ⟨z0b, z1b, z2b, z3b, z4b, z5b⟩ | exact ⟨z0c, z1c, z2c, z3c, z4c, z5c⟩ | exact ⟨z0d, z1d, z2d, z3d, z4d, z5d⟩ | exact ⟨bkeep ((Below.refl _ _).alloc (Nat.le_refl _) _) z0b, bkeep ((Below.refl _ _).alloc (Nat.le_refl _) _) z1b, bkeep ((Below.refl _ _).alloc (Nat.le_refl _) _) z2b, bkeep ((Below.refl _ _).alloc (Nat.le_refl _) _) z3b, bkeep ((Below.refl _ _).alloc (Nat.le_refl _) _) z4b, bkeep ((Below.refl _ _).alloc (Nat.le_refl _) _) z5b⟩)
            clear hK K
            try simp only [List.getElem_toArray, List.getElem_cons_zero, List.getElem_cons_succ, Act.put, List.setIfInBounds_toArray, List.set_cons_zero, List.set_cons_succ]
            refine wpAnyH_take (i := 7) (v := ?_) rfl (by kernel_rfl) (by kernel_rfl) (by kernel_rfl) (fun _ _ _ h => h) (Or.inl ⟨by rfl, ?_⟩) (by assumption) ?_
            rotate_left; focus (intro w hSw; (try dsimp only at hSw); go_simp; try (with_reducible rfl); done)
            try simp only [List.getElem_toArray, List.getElem_cons_zero, List.getElem_cons_succ, Act.put, List.setIfInBounds_toArray, List.set_cons_zero, List.set_cons_succ]
            refine wpAnyH_ready (rs := [8]) (by kernel_rfl) (by simp) ?_
            refine AllReadyH.cons rfl (fun K hK => ?_) AllReadyH.nil
            go_simp
            refine hK.out _ _ ?_ (fun hHeld => ?_)
            · (try dsimp only); (first | exact ⟨z0, z1, z2, z3, z4, z5⟩ | exact ⟨z0b, z1b, z2b, z3b, z4b, z5b⟩ | exact ⟨z0c, z1c, z2c, z3c, z4c, z5c⟩ | exact ⟨z0d, z1d, z2d, z3d, z4d, z5d⟩ | exact ⟨bkeep ((Below.refl _ _).alloc (Nat.le_refl _) _) z0b, bkeep ((Below.refl _ _).alloc (Nat.le_refl _) _) z1b, bkeep ((Below.refl _ _).alloc (Nat.le_refl _) _) z2b, bkeep ((Below.refl _ _).alloc (Nat.le_refl _) _) z3b, bkeep ((Below.refl _ _).alloc (Nat.le_refl _) _) z4b, bkeep ((Below.refl _ _).alloc (Nat.le_refl _) _) z5b⟩)
            clear hK K
            try simp only [List.getElem_toArray, List.getElem_cons_zero, List.getElem_cons_succ, Act.put, List.setIfInBounds_toArray, List.set_cons_zero, List.set_cons_succ]
            refine wpAnyH_done (by kernel_rfl) ?_ _
            go_wp2
            go_roundg (ks.length - (i + 1))
            case measure => have := HGZ.out; omega
            case rel =>
              have h1 := (HSTC.out.pick [2, 4, 1, 3, 0] 6 rfl rfl).snoc.get2
              have hn2 : n2 = (L ++ [q]).length := by have := h1.own.len; simpa using this
              refine ⟨i + 1, L ++ [q], some ⟨g', 0, none⟩, n2, c2', by omega, rfl, by go_num, Lib.hid ⟨by simp [HL.out.1], by rw [List.map_append, HL.out.2.1, HKB.out, List.map_singleton, HQ1.out], fun x hx => ?_⟩, ?_⟩
              · rcases List.mem_append.1 hx with hx | hx
                · exact HL.out.2.2 x hx
                · rw [List.mem_singleton.1 hx]; exact HQ2.out
              · rw [List.map_append, List.map_append, List.map_singleton, List.map_singleton, HKV.out]
                exact h1
      · have hge : ¬ ((i : Int) < ks.length) := by omega
        have hie : i = ks.length := by omega
        obtain ⟨z0, z1, z2, z3, z4, z5, z6, z7⟩ := Nm.cel8 hst 3 rfl
        have hL2 := HL.out.2.1
        have hL1 := HL.out.1
        rw [hie, List.take_length] at hL2
        obtain ⟨fp, hse⟩ := Nm.sealKids (f := n) hst HL.out.2.2 (by omega)
        rw [hL2] at hse
        have hse2 := hse.pick (ρ := aCel (w.heap.size + 1) 64 #[.int .i64 0, .int .u64 0, .int .u64 0, .int .u64 0, .int .u64 0, .slice none 0 0, .int .i64 0, .slice none 0 0] :: aEnc ((Nm.enc n).sl 96) fp [.slice ao' n' c'] (Nm.kidsB n ks (b + 1)) :: aCel g 3 #[.int .i64 ((b + 1 + Nm.sumK n (ks.take i) : Nat) : Int)] :: μ) [3, 0, 1] 5 rfl rfl
        have HSE := Lib.hid hse2
        have HIE := Lib.hid hie
        clear hst hse hse2 hL2 hL1 hie
        go_wp2_with (refine St.rowOp rfl 64 (.tmp 4) (.tmp 34) rfl (w.heap.size + 1) #[.int .i64 kd, .int .u64 a0, .int .u64 a1, .int .u64 a2, .int .u64 a3, .slice ak ks.length ck, .int .i64 b, .slice ao' n' c'] rfl rfl HSE.out Nm.info rfl (by simp [Value.oneCell']) ?_; intro w9 hst9; have HST9 := Lib.hid hst9; clear hst9 HSE)
        refine bodyPost_ret (results_row rfl _ _ (w.heap.size + 1) 64 _ _ rfl (HST9.out.heapAt 0 rfl) Tryd.underlying64 rfl Nm.info) rfl ?_
        refine ⟨((t, b), .slice ak ks.length ck, .slice ao' n' c', fp), rfl, ⟨HOK.out, ⟨_, _, _, rfl⟩, ⟨_, _, _, rfl⟩⟩, ?_, ?_⟩
        · unfold Nm.kidV Nm.cel
          simp only
          rw [HKD.out, HWS.out]
          rfl
        · have h9 := HST9.out.drop
          rw [show Nm.kidA (n + 1) ((t, b), .slice ak ks.length ck, .slice ao' n' c', fp) = aEnc ((Nm.enc n).sl 96) fp [.slice ao' n' c'] (Nm.kidsB n ks (b + 1)) by unfold Nm.kidA; rw [← HKS.out]; rfl]
          rw [HIE.out, List.take_length] at h9
          rw [show b + (1 + Nm.sumK n ks) = b + 1 + Nm.sumK n ks by omega]
          exact h9
end Go.Proofs.YtfelikfppjlcmaaDoor

/-
  string(b) of own bytes, nil or not. (A helper text; it claims nothing of the program.)
-/
namespace Go.Proofs.YtfelikfppjlcmaaDoor
set_option linter.unusedVariables false
open Go.ChangeShapes Go.WideShapes Go.ChangeAt Go.RowKit

theorem convOwn {P : Program} {w : World} {src e dst : TypeId} {v : Value} (hs : P.underlying src = some (.slice e)) (he : P.underlying e = some (.int .u8)) (hd : P.underlying dst = some .string) (xs : List Int) (h : Own w 0 e 1 v (xs.map (Value.int .u8))) :
    (convert src dst v).run P w = .ok (.string (strOfNums xs)) w := by
  rcases h.shape with ⟨h1, h2⟩ | ⟨g, cap, h1, _⟩
  · have : xs = [] := by simpa using h2
    subst this; subst h1
    rw [run_convert_bytes_nil w src e hs he 0 0 dst hd]
    rfl
  · subst h1
    exact str_of_own hs he hd xs h
end Go.Proofs.YtfelikfppjlcmaaDoor

/-
  char of package rex, Char of the reference: how a byte is written.
-/
namespace Go.Proofs.YtfelikfppjlcmaaDoor
set_option linter.unusedVariables false
set_option linter.unusedSimpArgs false
open Go.ChangeShapes Go.WideShapes Go.ChangeAt Go.RowKit

set_option maxRecDepth 100000 in
set_option maxHeartbeats 1600000 in
theorem rxChar_any (b : Nat) (hb : b < 256) (w : World) : Calls Tryd.prog 106 #[.int .u8 b] w fun e w' => e = .returned (.string (Rct.ct b)) ∧ Below w.heap.size w w' := by
  have HB := Lib.hid (Below.refl w.heap.size w)
  have hbI : (b : Int) < 256 := by omega
  obtain ⟨T, hT⟩ : ∃ T, Rct.ct b = T := ⟨_, rfl⟩
  rw [hT]
  rw [Rct.ct] at hT
  by_cases h1 : b = 10
  · rw [if_pos h1] at hT
    subst hT h1
    go_enter Tryd.func106, Tryd.ntmps106
    go_wp2
    go_ret
    exact ⟨rfl, HB.out⟩
  by_cases h2 : b = 9
  · rw [if_neg h1, if_pos h2] at hT
    subst hT h2
    go_enter Tryd.func106, Tryd.ntmps106
    go_wp2
    go_ret
    exact ⟨rfl, HB.out⟩
  by_cases h3 : b = 32
  · rw [if_neg h1, if_neg h2, if_pos h3] at hT
    subst hT h3
    go_enter Tryd.func106, Tryd.ntmps106
    go_wp2
    go_ret
    exact ⟨rfl, HB.out⟩
  have e1 : ((b : Int) == 10) = false := by rw [beq_eq_false_iff_ne]; omega
  have e2 : ((b : Int) == 9) = false := by rw [beq_eq_false_iff_ne]; omega
  have e3 : ((b : Int) == 32) = false := by rw [beq_eq_false_iff_ne]; omega
  rw [if_neg h1, if_neg h2, if_neg h3] at hT
  by_cases h4 : b < 33 ∨ 126 < b
  · rw [if_pos h4] at hT
    have HT := Lib.hid hT
    clear hT
    by_cases h5 : b < 33
    · have h5I : (b : Int) < 33 := by omega
      go_enter Tryd.func106, Tryd.ntmps106
      go_wp2_with (fail)
      go_quiet (fail)
      have HQ := Lib.hid (below_drewN HB.out nq)
      go_wp2
      go_ret
      exact ⟨by rw [← HT.out]; rfl, HQ.out⟩
    · have h5I : ¬ (b : Int) < 33 := by omega
      have h6I : (126 : Int) < b := by omega
      go_enter Tryd.func106, Tryd.ntmps106
      go_wp2_with (fail)
      go_quiet (fail)
      have HQ := Lib.hid (below_drewN HB.out nq)
      go_wp2
      go_ret
      exact ⟨by rw [← HT.out]; rfl, HQ.out⟩
  · rw [if_neg h4] at hT
    have h5I : ¬ (b : Int) < 33 := by omega
    have h6I : ¬ (126 : Int) < b := by omega
    have HI := Lib.hid (fun W => strIndex_any Rct.signs (b : Int) W)
    have hs := Rct.isSign_of hb
    unfold Rct.signs at HI
    rw [show Rct.signs = ⟨#[40, 41, 91, 93, 124, 42, 43, 63, 46, 94, 45, 92]⟩ from rfl] at hs
    generalize Lib.indexByte _ _ = z at *
    obtain ⟨bs, hbs⟩ : ∃ s, Rct.isSign b = s := ⟨_, rfl⟩
    rw [hbs] at hT hs
    clear hbs
    have HT := Lib.hid hT
    clear hT h4
    go_enter Tryd.func106, Tryd.ntmps106
    go_wp2_with (fail)
    go_at_call 82
    refine (HI.out _).mono ?_
    rintro e w1 ⟨rfl, rfl⟩
    have hE : Utf8.encode (b : Int) = Rct.one b := Rct.enc_one (by omega)
    have hsz : (Rct.one b).size = 1 := rfl
    generalize Rct.one b = E at *
    have hadd : ∀ W, (Op.stringOp .add ⟨#[92]⟩ E).run Tryd.prog W = .ok (.string (⟨#[92]⟩ ++ E)) W := fun W => run_string_add_sum W _ _ (by rw [hsz]; decide)
    clear hsz
    cases bs
    · go_wp2
      go_ret
      exact ⟨by rw [← HT.out]; rfl, HB.out⟩
    · go_wp2
      go_ret
      exact ⟨by rw [← HT.out]; rfl, HB.out⟩

namespace Rct
theorem sg_at (k : Nat) (hk : k < 12) : signs[k]'hk = (sg k).toUInt8 := by
  revert hk
  match k with
  | 0 | 1 | 2 | 3 | 4 | 5 | 6 | 7 | 8 | 9 | 10 | 11 => intro _; rfl
  | k + 12 => intro h; omega
theorem isSign_any (b : Nat) : isSign b = (List.range 12).any fun k => sg k == b := rfl
theorem sign_hit {b k : Nat} (hk : k < 12) (h : sg k = b) : isSign b = true := by
  rw [isSign_any, List.any_eq_true]
  exact ⟨k, List.mem_range.2 hk, by simp [h]⟩
theorem sign_miss {b : Nat} (h : ∀ k, k < 12 → sg k ≠ b) : isSign b = false := by
  rw [isSign_any, List.any_eq_false]
  intro k hk
  simpa using h k (List.mem_range.1 hk)
theorem sign_piece (k : Nat) (hk : k < 12) : signs.extract k (k + 1) = one (sg k) := by
  revert hk
  match k with
  | 0 | 1 | 2 | 3 | 4 | 5 | 6 | 7 | 8 | 9 | 10 | 11 => intro _; rfl
  | k + 12 => intro h; omega
theorem sg_eq {b k : Nat} (hk : k < 12) (h : (wrap64 (((⟨#[40, 41, 91, 93, 124, 42, 43, 63, 46, 94, 45, 92]⟩ : ByteArray)[k]'hk).toNat : Int) == (b : Int)) = true) : sg k = b := by
  have h1 := sg_at k hk
  unfold signs at h1
  rw [h1] at h
  have h2 := sg_lt k
  have h3 : (((sg k).toUInt8.toNat : Nat) : Int) = (sg k : Int) := by simp; omega
  rw [h3, show wrap64 (sg k : Int) = (sg k : Int) by unfold wrap64; omega] at h
  have := beq_iff_eq.1 h
  omega
theorem sg_ne {b k : Nat} (hk : k < 12) (h : (wrap64 (((⟨#[40, 41, 91, 93, 124, 42, 43, 63, 46, 94, 45, 92]⟩ : ByteArray)[k]'hk).toNat : Int) == (b : Int)) = false) : sg k ≠ b := by
  intro e
  refine absurd ?_ (Bool.eq_false_iff.1 h)
  have h1 := sg_at k hk
  unfold signs at h1
  rw [h1]
  have h2 := sg_lt k
  have h3 : (((sg k).toUInt8.toNat : Nat) : Int) = (sg k : Int) := by simp; omega
  rw [h3, show wrap64 (sg k : Int) = (sg k : Int) by unfold wrap64; omega]
  exact beq_iff_eq.2 (by omega)
theorem own_one {w : World} {g : Nat} {e : TypeId} {size : Nat} {u : Value} (h : w.heap[g]? = some (.cells u.cells e (0, 0))) (hs : u.cells.size = size) : Own w 0 e size (.slice (some ⟨g, 0, none⟩) 1 1) [u] := by
  refine ⟨by simp [cellsOf, hs], .inr ⟨g, 1, u.cells, rfl, Nat.zero_le _, h, Nat.le_refl _, by decide, by simp [hs], ?_⟩⟩
  simp [cellsOf]
  exact List.take_of_length_le (by rw [Array.length_toList]; omega)
theorem str_one {b : Nat} (hb : b < 256) : strOfNums [(b : Int)] = one b := by
  simp [strOfNums, one]
end Rct

set_option maxRecDepth 100000 in
set_option maxHeartbeats 1600000 in
theorem rChar_any (b : Nat) (hb : b < 256) (w : World) : Calls Tryd.prog 91 #[.int .i64 b] w fun e w' => e = .returned (.string (Rct.ct b)) ∧ Below w.heap.size w w' := by
  have HB := Lib.hid (Below.refl w.heap.size w)
  have hbI : (b : Int) < 256 := by omega
  obtain ⟨T, hT⟩ : ∃ T, Rct.ct b = T := ⟨_, rfl⟩
  rw [hT]
  rw [Rct.ct] at hT
  by_cases h1 : b = 10
  · rw [if_pos h1] at hT
    subst hT h1
    go_enter Tryd.func91, Tryd.ntmps91
    go_wp2
    go_ret
    exact ⟨rfl, HB.out⟩
  by_cases h2 : b = 9
  · rw [if_neg h1, if_pos h2] at hT
    subst hT h2
    go_enter Tryd.func91, Tryd.ntmps91
    go_wp2
    go_ret
    exact ⟨rfl, HB.out⟩
  by_cases h3 : b = 32
  · rw [if_neg h1, if_neg h2, if_pos h3] at hT
    subst hT h3
    go_enter Tryd.func91, Tryd.ntmps91
    go_wp2
    go_ret
    exact ⟨rfl, HB.out⟩
  have e1 : ((b : Int) == 10) = false := by rw [beq_eq_false_iff_ne]; omega
  have e2 : ((b : Int) == 9) = false := by rw [beq_eq_false_iff_ne]; omega
  have e3 : ((b : Int) == 32) = false := by rw [beq_eq_false_iff_ne]; omega
  rw [if_neg h1, if_neg h2, if_neg h3] at hT
  by_cases h4 : b < 33 ∨ 126 < b
  · rw [if_pos h4] at hT
    have HT := Lib.hid hT
    clear hT
    by_cases h5 : b < 33
    · have h5I : (b : Int) < 33 := by omega
      go_enter Tryd.func91, Tryd.ntmps91
      go_wp2_with (fail)
      go_quiet (fail)
      have HQ := Lib.hid (below_drewN HB.out nq)
      go_wp2
      go_ret
      exact ⟨by rw [← HT.out]; rfl, HQ.out⟩
    · have h5I : ¬ (b : Int) < 33 := by omega
      have h6I : (126 : Int) < b := by omega
      go_enter Tryd.func91, Tryd.ntmps91
      go_wp2_with (fail)
      go_quiet (fail)
      have HQ := Lib.hid (below_drewN HB.out nq)
      go_wp2
      go_ret
      exact ⟨by rw [← HT.out]; rfl, HQ.out⟩
  · rw [if_neg h4] at hT
    have h5I : ¬ (b : Int) < 33 := by omega
    have h6I : ¬ (126 : Int) < b := by omega
    have HT := Lib.hid hT
    have HLT := Lib.hid hb
    clear hT h4 h1 h2 h3
    go_enter Tryd.func91, Tryd.ntmps91
    go_wp2_with (fail)
    go_loopg [3] 12 (fun gk v3 wr => ∃ k : Nat, k ≤ 12 ∧ gk = 12 - k ∧ v3 = .int .i64 k ∧ Hid (∀ j, j < k → Rct.sg j ≠ b) ∧ Below w.heap.size w wr)
    case atStart => exact ⟨0, by omega, rfl, rfl, Lib.hid fun j hj => by omega, HB.out⟩
    case round =>
      obtain ⟨k, hk, hgk, rfl, HN, hB⟩ := hrel
      have HGK := Lib.hid hgk
      clear hgk
      by_cases hlt : k < 12
      · have hltI : (k : Int) < 12 := by omega
        go_wp2_with (fail)
        · rename_i hc
          have hs := Rct.sg_eq hlt hc
          have hT := HT.out
          rw [if_pos (Rct.sign_hit hlt hs)] at hT
          have HT2 := Lib.hid (show (⟨#[92]⟩ : ByteArray) ++ (⟨#[40, 41, 91, 93, 124, 42, 43, 63, 46, 94, 45, 92]⟩ : ByteArray).extract k (k + 1) = T by rw [← hT, ← hs, ← Rct.sign_piece k hlt]; rfl)
          clear hc hs hT
          go_wp2
          go_ret
          exact ⟨by rw [← HT2.out]; rfl, hB⟩
        · rename_i hc
          have HNS := Lib.hid (Rct.sg_ne hlt hc)
          clear hc
          go_wp2
          go_roundg (12 - (k + 1))
          case measure => have := HGK.out; omega
          case rel => exact ⟨k + 1, by omega, rfl, by go_num, Lib.hid fun j hj => (by by_cases e : j = k; exact e ▸ HNS.out; exact HN.out j (by omega)), hB⟩
      · have h12 : ¬ (k : Int) < 12 := by omega
        have HN2 : Hid (∀ j, j < 12 → Rct.sg j ≠ b) := Lib.hid fun j hj => HN.out j (by omega)
        have HS := Lib.hid (Rct.sign_miss HN2.out)
        have hcv : ∀ W : World, (convert 80 9 (.slice (some ⟨W.heap.size, 0, none⟩) 1 1)).run Tryd.prog (W.alloc (.cells #[.int .u8 (b : Int)] 5)) = .ok (.string (Rct.one b)) (W.alloc (.cells #[.int .u8 (b : Int)] 5)) := fun W =>
          (convOwn Tryd.underlying80 Tryd.underlying5 Tryd.underlying9 [(b : Int)] (Rct.own_one (u := .int .u8 (b : Int)) (heap_alloc_new _ _) rfl)).trans (by rw [Rct.str_one HLT.out]; rfl)
        have hT := HT.out
        rw [HS.out, if_neg (by decide)] at hT
        have HT2 := Lib.hid hT
        have HBA := Lib.hid (hB.alloc hB.size (.cells #[.int .u8 (b : Int)] 5))
        clear hT
        go_wp2
        go_ret
        exact ⟨by rw [← HT2.out]; rfl, HBA.out⟩
end Go.Proofs.YtfelikfppjlcmaaDoor

/-
  The bits of a word, from the least on. (Plain; nothing of the program is claimed.)
-/
namespace Go.Proofs.YtfelikfppjlcmaaDoor
set_option linter.unusedVariables false
set_option linter.unusedSimpArgs false

namespace Cs
def bitsL (x : Nat) : List Nat := (List.range 64).filter x.testBit
theorem bits_zero : bitsL 0 = [] := by simp [bitsL]
/-- The least bit, and the word without it. -/
theorem low_bit {x : Nat} (h0 : x ≠ 0) (hx : x < 18446744073709551616) : Lib.ctz 64 x < 64 ∧ x.testBit (Lib.ctz 64 x) = true ∧ (∀ j, j < Lib.ctz 64 x → x.testBit j = false) ∧ ∀ j, (x &&& (x - 1)).testBit j = (x.testBit j && decide (j ≠ Lib.ctz 64 x)) := by
  obtain ⟨m, hm, hk⟩ := Lib.ctzFrom_spec 64 x (by omega) hx
  have hc : Lib.ctz 64 x = Lib.ctzFrom 64 x := by unfold Lib.ctz; rw [if_neg h0]
  rw [hc]
  generalize Lib.ctzFrom 64 x = k at *
  have hp : 0 < 2 ^ k := Nat.two_pow_pos k
  have e1 : ∀ j, x.testBit j = if j < k then false else (2 * m + 1).testBit (j - k) := fun j => by
    rw [hm, Nat.mul_comm, Nat.testBit_mul_two_pow]
    by_cases h : k ≤ j
    · rw [decide_eq_true h, Bool.true_and, if_neg (by omega)]
    · rw [decide_eq_false h, Bool.false_and, if_pos (by omega)]
  have hx1 : x - 1 = 2 ^ k * (2 * m) + (2 ^ k - 1) := by
    rw [hm, Nat.mul_add, Nat.mul_one]; omega
  have e2 : ∀ j, (x - 1).testBit j = if j < k then true else (2 * m).testBit (j - k) := fun j => by
    rw [hx1, Nat.testBit_two_pow_mul_add _ (by omega)]
    split
    · rename_i h
      rw [Nat.testBit_two_pow_sub_one]; simp [h]
    · rfl
  refine ⟨hk, ?_, fun j hj => ?_, fun j => ?_⟩
  · rw [e1, if_neg (by omega), Nat.sub_self, Nat.testBit_zero]; simp
  · rw [e1, if_pos hj]
  · rw [Nat.testBit_and, e1, e2]
    by_cases h : j < k
    · simp [h]
    · rw [if_neg h, if_neg h]
      by_cases he : j = k
      · subst he; simp
      · obtain ⟨d, hd⟩ : ∃ d, j - k = d + 1 := ⟨j - k - 1, by omega⟩
        rw [hd, Nat.testBit_succ, Nat.testBit_succ, show (2 * m + 1) / 2 = m by omega, show 2 * m / 2 = m by omega]
        simp [he]
theorem bits_step {x : Nat} (h0 : x ≠ 0) (hx : x < 18446744073709551616) : bitsL x = Lib.ctz 64 x :: bitsL (x &&& (x - 1)) := by
  obtain ⟨h1, h2, h3, h4⟩ := low_bit h0 hx
  generalize Lib.ctz 64 x = k at *
  unfold bitsL
  have e : (List.range 64) = List.range k ++ (k :: (List.range (63 - k)).map (· + (k + 1))) := by
    have : 64 = k + (1 + (63 - k)) := by omega
    conv => lhs; rw [this]
    rw [List.range_add, Nat.add_comm 1, List.range_succ_eq_map]
    simp [Function.comp_def, Nat.add_comm, Nat.add_left_comm]
  rw [e, List.filter_append, List.filter_append, List.filter_cons_of_pos h2, List.filter_cons_of_neg (by rw [h4]; simp)]
  have e1 : (List.range k).filter x.testBit = [] := by
    rw [List.filter_eq_nil_iff]
    intro j hj
    rw [h3 j (List.mem_range.1 hj)]; simp
  have e2 : (List.range k).filter (x &&& (x - 1)).testBit = [] := by
    rw [List.filter_eq_nil_iff]
    intro j hj
    rw [h4, h3 j (List.mem_range.1 hj)]; simp
  have e3 : ((List.range (63 - k)).map (· + (k + 1))).filter x.testBit = ((List.range (63 - k)).map (· + (k + 1))).filter (x &&& (x - 1)).testBit := by
    apply List.filter_congr
    intro j hj
    obtain ⟨d, _, rfl⟩ := List.mem_map.1 hj
    rw [h4, decide_eq_true (by omega), Bool.and_true]
  rw [e1, e2, e3, List.nil_append, List.nil_append]
theorem and_pred_lt {x : Nat} (h0 : x ≠ 0) : x &&& (x - 1) < x := by
  have := @Nat.and_le_right x (x - 1)
  omega
/-- The bytes of a class, in order. -/
def bytesL (ws : List Nat) (i : Nat) : List Nat := (List.range i).flatMap fun j => (bitsL (ws.getD j 0)).map fun k => 64 * j + k
theorem bytes_zero (ws : List Nat) : bytesL ws 0 = [] := rfl
theorem bytes_succ (ws : List Nat) (i : Nat) : bytesL ws (i + 1) = bytesL ws i ++ (bitsL (ws.getD i 0)).map fun k => 64 * i + k := by
  unfold bytesL; rw [List.range_succ, List.flatMap_append]; simp
theorem bytes_mem (ws : List Nat) : ∀ i, bytesL ws i = (List.range (64 * i)).filter (Dm.mem ws) := by
  intro i
  induction i with
  | zero => rfl
  | succ i ih =>
    rw [bytes_succ, ih, Nat.mul_add, Nat.mul_one, List.range_add, List.filter_append, List.filter_map]
    congr 1
    unfold bitsL
    congr 1
    apply List.filter_congr
    intro k hk
    have := List.mem_range.1 hk
    unfold Dm.mem
    simp only [Function.comp]
    rw [show (64 * i + k) / 64 = i by omega, show (64 * i + k) % 64 = k by omega]
theorem bytes_all (ws : List Nat) : bytesL ws 4 = (List.range 256).filter (Dm.mem ws) := bytes_mem ws 4
theorem bytes_len (ws : List Nat) (i : Nat) : (bytesL ws i).length ≤ 64 * i := by
  rw [bytes_mem]
  have := List.length_filter_le (Dm.mem ws) (List.range (64 * i))
  rw [List.length_range] at this; exact this
theorem bits_len (x : Nat) : (bitsL x).length ≤ 64 := by
  unfold bitsL
  have := List.length_filter_le x.testBit (List.range 64)
  rw [List.length_range] at this; exact this
theorem bits_lt {x k : Nat} (h : k ∈ bitsL x) : k < 64 := List.mem_range.1 (List.mem_filter.1 h).1
end Cs
end Go.Proofs.YtfelikfppjlcmaaDoor

/-
  How many bits a word has: the adding of neighbours, byte by byte. (Plain; nothing of the program is claimed.)
-/
namespace Go.Proofs.YtfelikfppjlcmaaDoor
set_option linter.unusedVariables false
set_option linter.unusedSimpArgs false

namespace Cs
/-- A number, byte by byte. -/
def lanes (g : Nat → Nat) : Nat → Nat → Nat
  | 0, _ => 0
  | n + 1, x => g (x % 256) + 256 * lanes g n (x / 256)
theorem lanes_add (f g : Nat → Nat) : ∀ n x, lanes f n x + lanes g n x = lanes (fun e => f e + g e) n x
  | 0, _ => rfl
  | n + 1, x => by
    have := lanes_add f g n (x / 256)
    simp only [lanes]
    rw [← this]
    omega
theorem lanes_congr {f g : Nat → Nat} (h : ∀ e, e < 256 → f e = g e) : ∀ n x, lanes f n x = lanes g n x
  | 0, _ => rfl
  | n + 1, x => by simp only [lanes]; rw [h _ (Nat.mod_lt _ (by decide)), lanes_congr h n]
theorem lanes_comp {f h : Nat → Nat} (hh : ∀ e, e < 256 → h e < 256) : ∀ n x, lanes f n (lanes h n x) = lanes (fun e => f (h e)) n x
  | 0, _ => rfl
  | n + 1, x => by
    have hd := hh (x % 256) (Nat.mod_lt _ (by decide))
    simp only [lanes]
    rw [Nat.add_mul_mod_self_left, Nat.mod_eq_of_lt hd, Nat.add_mul_div_left _ _ (by decide), Nat.div_eq_of_lt hd, Nat.zero_add, lanes_comp hh n]
theorem lanes_lt {h : Nat → Nat} (hh : ∀ e, e < 256 → h e < 256) : ∀ n x, lanes h n x < 256 ^ n
  | 0, _ => by simp [lanes]
  | n + 1, x => by
    have h1 := hh (x % 256) (Nat.mod_lt _ (by decide))
    have h2 := lanes_lt hh n (x / 256)
    simp only [lanes]
    rw [Nat.pow_succ]; omega
theorem and_split (a b c d : Nat) (ha : a < 256) (hc : c < 256) : (a + 256 * b) &&& (c + 256 * d) = (a &&& c) + 256 * (b &&& d) := by
  apply Nat.eq_of_testBit_eq
  intro i
  have h3 : a &&& c < 2 ^ 8 := Nat.lt_of_le_of_lt Nat.and_le_left ha
  rw [Nat.testBit_and, Nat.add_comm a, Nat.add_comm c, Nat.add_comm (a &&& c), show (256 : Nat) = 2 ^ 8 by rfl, Nat.testBit_two_pow_mul_add _ ha, Nat.testBit_two_pow_mul_add _ hc, Nat.testBit_two_pow_mul_add _ h3]
  split
  · rw [Nat.testBit_and]
  · rw [Nat.testBit_and]
/-- A shift within the bytes, under a mask. -/
theorem shift_and {k m : Nat} (hk : k ≤ 7) (hm : m < 2 ^ (8 - k)) : ∀ n x, (x / 2 ^ k) &&& lanes (fun _ => m) n 0 = lanes (fun e => (e / 2 ^ k) &&& m) n x
  | 0, x => by simp [lanes]
  | n + 1, x => by
    have ih := shift_and hk hm n (x / 256)
    simp only [lanes]
    rw [Nat.zero_div]
    have hm256 : m < 256 := Nat.lt_of_lt_of_le hm (by rw [show (256 : Nat) = 2 ^ 8 by rfl]; exact Nat.pow_le_pow_right (by decide) (by omega))
    have e0 : x / 256 / 2 ^ k = x / 2 ^ k / 256 := by rw [Nat.div_div_eq_div_mul, Nat.div_div_eq_div_mul, Nat.mul_comm]
    have e1 : x / 2 ^ k = (x / 2 ^ k) % 256 + 256 * ((x / 256) / 2 ^ k) := by
      rw [e0]
      generalize x / 2 ^ k = u
      omega
    rw [e1, and_split _ _ _ _ (Nat.mod_lt _ (by decide)) hm256, ih]
    congr 1
    apply Nat.eq_of_testBit_eq
    intro i
    rw [Nat.testBit_and, Nat.testBit_and, show (256 : Nat) = 2 ^ 8 by rfl, Nat.testBit_mod_two_pow, Nat.testBit_div_two_pow, Nat.testBit_div_two_pow, Nat.testBit_mod_two_pow]
    by_cases hi : i < 8 - k
    · rw [decide_eq_true (by omega), decide_eq_true (by omega)]
    · have : m.testBit i = false := Nat.testBit_lt_two_pow (Nat.lt_of_lt_of_le hm (Nat.pow_le_pow_right (by decide) (by omega)))
      rw [this, Bool.and_false, Bool.and_false]
/-- Nibbles added, under a mask. -/
theorem nib_add {h : Nat → Nat} (hh : ∀ e, e < 256 → h e % 16 ≤ 4 ∧ h e / 16 ≤ 4) : ∀ n x, (lanes h n x / 16 + lanes h n x) &&& lanes (fun _ => 15) n 0 = lanes (fun e => (h e + h e / 16) % 16) n x
  | 0, x => by simp [lanes]
  | n + 1, x => by
    have ih := nib_add hh n (x / 256)
    obtain ⟨h1, h2⟩ := hh (x % 256) (Nat.mod_lt _ (by decide))
    have h3 : lanes h n (x / 256) % 16 ≤ 4 := by
      cases n with
      | zero => simp [lanes]
      | succ n =>
        have := (hh (x / 256 % 256) (Nat.mod_lt _ (by decide))).1
        simp only [lanes]
        omega
    simp only [lanes]
    rw [Nat.zero_div]
    generalize h (x % 256) = d at *
    generalize lanes h n (x / 256) = z at *
    have e1 : (d + 256 * z) / 16 + (d + 256 * z) = (d + d / 16 + 16 * (z % 16)) + 256 * (z / 16 + z) := by omega
    rw [e1, and_split _ _ _ _ (by omega) (by decide), ih]
    congr 1
    have e2 := Nat.and_two_pow_sub_one_eq_mod (d + d / 16 + 16 * (z % 16)) 4
    rw [show (15 : Nat) = 2 ^ 4 - 1 by rfl, e2]
    omega
def p8 (e : Nat) : Nat := ((List.range 8).filter e.testBit).length
def s1 (e : Nat) : Nat := ((e / 2 ^ 1) &&& 85) + ((e / 2 ^ 0) &&& 85)
def s2 (e : Nat) : Nat := ((e / 2 ^ 2) &&& 51) + ((e / 2 ^ 0) &&& 51)
theorem s1_lt : ∀ e, e < 256 → s1 e < 256 := by decide +kernel
theorem s2_ok : ∀ e, e < 256 → s2 (s1 e) % 16 ≤ 4 ∧ s2 (s1 e) / 16 ≤ 4 := by decide +kernel
theorem s2_lt : ∀ e, e < 256 → s2 (s1 e) < 256 := by decide +kernel
theorem p8_eq : ∀ e, e < 256 → (s2 (s1 e) + s2 (s1 e) / 16) % 16 = p8 e := by decide +kernel
theorem p8_le (e : Nat) : p8 e ≤ 8 := by
  unfold p8
  have := List.length_filter_le e.testBit (List.range 8)
  rw [List.length_range] at this; exact this
theorem m0 : lanes (fun _ => 85) 8 0 = 6148914691236517205 := by decide
theorem m1 : lanes (fun _ => 51) 8 0 = 3689348814741910323 := by decide
theorem m2 : lanes (fun _ => 15) 8 0 = 1085102592571150095 := by decide
theorem pop1 (x : Nat) : (x / 2 &&& 6148914691236517205) + (x &&& 6148914691236517205) = lanes s1 8 x := by
  have h1 := shift_and (k := 1) (m := 85) (by omega) (by decide) 8 x
  have h2 := shift_and (k := 0) (m := 85) (by omega) (by decide) 8 x
  rw [m0] at h1 h2
  rw [Nat.pow_zero, Nat.div_one] at h2
  rw [show x / 2 = x / 2 ^ 1 by rfl, h1, h2, lanes_add]
  rfl
theorem pop2 (x : Nat) : (lanes s1 8 x / 4 &&& 3689348814741910323) + (lanes s1 8 x &&& 3689348814741910323) = lanes (fun e => s2 (s1 e)) 8 x := by
  have h1 := shift_and (k := 2) (m := 51) (by omega) (by decide) 8 (lanes s1 8 x)
  have h2 := shift_and (k := 0) (m := 51) (by omega) (by decide) 8 (lanes s1 8 x)
  rw [m1] at h1 h2
  rw [Nat.pow_zero, Nat.div_one] at h2
  rw [show lanes s1 8 x / 4 = lanes s1 8 x / 2 ^ 2 by rfl, h1, h2, lanes_add, lanes_comp s1_lt]
  rfl
theorem pop3 (x : Nat) : (lanes (fun e => s2 (s1 e)) 8 x / 16 + lanes (fun e => s2 (s1 e)) 8 x) &&& 1085102592571150095 = lanes p8 8 x := by
  rw [← m2, nib_add s2_ok, lanes_congr p8_eq]
/-- The bits, byte by byte. -/
theorem bits_lanes (x : Nat) (hx : x < 18446744073709551616) : (bitsL x).length = p8 (x % 256) + p8 (x / 256 % 256) + p8 (x / 256 / 256 % 256) + p8 (x / 256 / 256 / 256 % 256) + p8 (x / 256 / 256 / 256 / 256 % 256) + p8 (x / 256 / 256 / 256 / 256 / 256 % 256) + p8 (x / 256 / 256 / 256 / 256 / 256 / 256 % 256) + p8 (x / 256 / 256 / 256 / 256 / 256 / 256 / 256 % 256) := by
  have key : ∀ n x, ((List.range (8 * (n + 1))).filter x.testBit).length = p8 (x % 256) + ((List.range (8 * n)).filter (x / 256).testBit).length := by
    intro n x
    rw [show 8 * (n + 1) = 8 + 8 * n by omega, List.range_add, List.filter_append, List.length_append, List.filter_map, List.length_map]
    congr 1
    · unfold p8
      congr 1
      apply List.filter_congr
      intro i hi
      have := List.mem_range.1 hi
      rw [show (256 : Nat) = 2 ^ 8 by rfl, Nat.testBit_mod_two_pow, decide_eq_true (by omega), Bool.true_and]
    · congr 1
      apply List.filter_congr
      intro i hi
      simp only [Function.comp]
      rw [show (256 : Nat) = 2 ^ 8 by rfl, Nat.testBit_div_two_pow, Nat.add_comm]
  unfold bitsL
  rw [show (64 : Nat) = 8 * (7 + 1) by rfl, key, key, key, key, key, key, key, key]
  simp
  omega
theorem pop_sum {b0 b1 b2 b3 b4 b5 b6 b7 L0 L1 L2 L3 L4 L5 L6 y z v : Nat} (h0 : b0 ≤ 8) (h1 : b1 ≤ 8) (h2 : b2 ≤ 8) (h3 : b3 ≤ 8) (h4 : b4 ≤ 8) (h5 : b5 ≤ 8) (h6 : b6 ≤ 8) (h7 : b7 ≤ 8)
    (e6 : L6 = b6 + 256 * b7) (e5 : L5 = b5 + 256 * L6) (e4 : L4 = b4 + 256 * L5) (e3 : L3 = b3 + 256 * L4) (e2 : L2 = b2 + 256 * L3) (e1 : L1 = b1 + 256 * L2) (e0 : L0 = b0 + 256 * L1)
    (hy : y = L0 + L0 / 256) (hz : z = y + y / 65536) (hv : v = z + z / 4294967296) : v < 9223372036854775808 ∧ y < 9223372036854775808 ∧ z < 9223372036854775808 ∧ v % 128 = b0 + b1 + b2 + b3 + b4 + b5 + b6 + b7 := by
  have d0 : L0 / 256 = L1 := by omega
  have y1 : y = L0 + L1 := by omega
  have y2 : y = (b0 + 257 * b1 + 256 * b2) + 65536 * (L2 + L3) := by omega
  have d1 : y / 65536 = L2 + L3 := by rw [y2, Nat.add_mul_div_left _ _ (by decide), Nat.div_eq_of_lt (by omega), Nat.zero_add]
  have z1 : z = L0 + L1 + L2 + L3 := by omega
  have b6' : L6 ≤ 2056 := by omega
  have b5' : L5 ≤ 526344 := by omega
  have b4' : L4 ≤ 134744072 := by omega
  have z2 : z = (b0 + 257 * b1 + 65793 * b2 + 16843009 * b3 + 16843008 * b4 + 16842752 * b5 + 16777216 * b6) + 4294967296 * (L4 + L5 + L6 + b7) := by omega
  have d2 : z / 4294967296 = L4 + L5 + L6 + b7 := by rw [z2, Nat.add_mul_div_left _ _ (by decide), Nat.div_eq_of_lt (by omega), Nat.zero_add]
  have v1 : v = z + (L4 + L5 + L6 + b7) := by rw [hv, d2]
  have b3' : L3 ≤ 34494482440 := by omega
  have b2' : L2 ≤ 8830587504648 := by omega
  have b1' : L1 ≤ 2260630401189896 := by omega
  have b0' : L0 ≤ 578721382704613384 := by omega
  clear hy hz hv d0 d1 d2 y2 z2
  have v2 : v = (b0 + b1 + b2 + b3 + b4 + b5 + b6 + b7) + 128 * (2 * (L1 + L2 + L3 + L4 + L5 + L6 + b7)) := by omega
  refine ⟨by omega, by omega, by omega, ?_⟩
  rw [v2, Nat.add_mul_mod_self_left, Nat.mod_eq_of_lt (by omega)]
theorem pop_all (x : Nat) (hx : x < 18446744073709551616) (y z v : Nat) (hy : y = lanes p8 8 x + lanes p8 8 x / 256) (hz : z = y + y / 65536) (hv : v = z + z / 4294967296) : v < 9223372036854775808 ∧ y < 9223372036854775808 ∧ z < 9223372036854775808 ∧ v % 128 = (bitsL x).length := by
  rw [bits_lanes x hx]
  refine pop_sum (p8_le _) (p8_le _) (p8_le _) (p8_le _) (p8_le _) (p8_le _) (p8_le _) (p8_le _) rfl rfl rfl rfl rfl rfl ?_ hy hz hv
  simp [lanes]
end Cs
end Go.Proofs.YtfelikfppjlcmaaDoor

/-
  math/bits.TrailingZeros64 over its table, as the program's own text lays it.
-/
namespace Go.Proofs.YtfelikfppjlcmaaDoor
set_option linter.unusedVariables false
open Go.ChangeShapes Go.WideShapes Go.ChangeAt Go.RowKit

namespace Tz
/-- The table in its variable. -/
def Tab (w : World) : Prop := ∀ j, j < 64 → w.cell? ⟨1, j, none⟩ = some (.int .u8 (Lib.deBruijn64tab.getD j 0 : Nat))
theorem gTab : Tryd.prog.globalNamed "math/bits.deBruijn64tab" = some 1 := by kernel_rfl
theorem tTab : (Tryd.prog.globals[1]?).map (·.type) = some 185 := by kernel_rfl
theorem Tab.keep {w w' : World} (h : Tab w) (hb : Below w.heap.size w w') : Tab w' := fun j hj => bkeep hb (h j hj)
theorem data_eq : (Rows.laid_math_bits_deBruijn64tab : DataW Unit) = Lib.tabData .u8 (Lib.deBruijn64tab.map fun n : Nat => (n : Int)) := by rfl
theorem tab_of_laid {W : World} {rest : List (String × DataW Unit)} (h : laidMet Tryd.prog (("math/bits.deBruijn64tab", Rows.laid_math_bits_deBruijn64tab) :: rest) W) : Tab W := by
  rw [data_eq] at h
  have h2 := Lib.tabIs_of_head gTab tTab Tryd.underlying185 Tryd.underlying5 (by kernel_rfl) (by kernel_rfl) h
  intro j hj
  have hl : Lib.deBruijn64tab.length = 64 := by decide
  have := h2.cell gTab j (by rw [List.length_map]; omega)
  rw [this]
  congr 2
  simp [List.getD, hl, hj]
end Tz
end Go.Proofs.YtfelikfppjlcmaaDoor

/-
  Not of package class; Where of the reference.
-/
namespace Go.Proofs.YtfelikfppjlcmaaDoor
set_option linter.unusedVariables false
set_option linter.unusedSimpArgs false
open Go.ChangeShapes Go.WideShapes Go.ChangeAt Go.RowKit

theorem Cs.not_u64 (x : Nat) (hx : x < 18446744073709551616) : bits .xor .u64 IntKind.u64.max (x : Int) = ((18446744073709551615 - x : Nat) : Int) := by
  have h1 : BitVec.ofInt 64 IntKind.u64.max = BitVec.allOnes 64 := by decide
  have h2 : (BitVec.ofInt 64 (x : Int)).toNat = x := by
    rw [BitVec.ofInt_natCast, BitVec.toNat_ofNat]; exact Nat.mod_eq_of_lt hx
  show IntKind.u64.wrap ((BitVec.ofInt 64 IntKind.u64.max ^^^ BitVec.ofInt 64 (x : Int)).toNat : Nat) = _
  rw [h1, BitVec.allOnes_xor, BitVec.toNat_not, h2, IntKind.wrap_u64]
  omega

set_option maxRecDepth 100000 in
set_option maxHeartbeats 1600000 in
theorem clNot_any (a : List Nat) (ha : Dm.Ok4 a) (w : World) :
    Calls Tryd.prog 62 #[Cs.clV a] w fun e w' => e = .returned (Cs.clV (Cs.inv a)) ∧ Below w.heap.size w w' := by
  have hst := ((St.init w).alloc (Cs.clA a) 24).alloc (Cs.clA Dm.zero) 24
  simp only [World.size_alloc] at hst
  have HST := Lib.hid hst
  clear hst
  have HA := Lib.hid ha
  obtain ⟨Z, hZ⟩ : ∃ Z, Cs.inv a = Z := ⟨_, rfl⟩
  rw [hZ]
  have HZL := Lib.hid (show Z.length = 4 by rw [← hZ]; simp [Cs.inv, ha.len])
  have HZG := Lib.hid (fun (j : Nat) (hj : j < 4) => show Z.getD j 0 = (18446744073709551615 - a.getD j 0) by rw [← hZ]; exact Cs.inv_get ha.len hj)
  clear ha hZ
  unfold Cs.clV
  go_enter Tryd.func62, Tryd.ntmps62
  go_wp2_with (fail)
  go_loopg [4] 4 (fun gz v6 wr => ∃ i : Nat, i ≤ 4 ∧ gz = 4 - i ∧ v6 = .int .i64 i ∧ St w wr [aCel (w.heap.size + 1) 24 (Cs.clA Dm.zero), aCel w.heap.size 24 (Cs.clA (Cs.upto a Z i))])
  case atStart => exact ⟨0, by omega, by omega, rfl, by rw [Cs.upto_zero]; exact HST.out⟩
  case round =>
    clear HST
    obtain ⟨i, hi, hgz, rfl, hst⟩ := hrel
    have HGZ := Lib.hid hgz
    clear hgz
    by_cases hlt : i < 4
    · have hltI : (i : Int) < 4 := by omega
      have hga := Cs.clA_get (ws := Cs.upto a Z i) (j := i) (by rw [Cs.upto_len HA.out.len HZL.out (by omega)]; omega)
      rw [Cs.upto_get HA.out.len HZL.out hlt] at hga
      have hst2 := (hst.pick (ρ := [aCel w.heap.size 24 (Cs.clA (Cs.upto a Z i)), aCel (w.heap.size + 1) 24 (Cs.clA Dm.zero)]) [1, 0] 2 rfl rfl).setCel i (Cs.wV (Z.getD i 0))
      rw [Cs.clA_set, Cs.upto_set HA.out.len HZL.out hlt] at hst2
      have c0 := (hst.nth 1 rfl).celAt hga
      have f0 := (hst.nth 1 rfl).celFree i
      have hzg := HZG.out i hlt
      have hla : a.getD i 0 < 18446744073709551616 := HA.out.lt i
      unfold Cs.wV at c0 hst2
      have HST2 := Lib.hid hst2
      generalize a.getD i 0 = x at *
      generalize Z.getD i 0 = z at *
      have hxor : bits .xor .u64 IntKind.u64.max (x : Int) = (z : Int) := by rw [Cs.not_u64 x hla, hzg]
      clear hst hga hst2 hzg hla
      go_wp2
      go_roundg (4 - (i + 1))
      case measure => have := HGZ.out; omega
      case rel => exact ⟨i + 1, by omega, rfl, by go_num, HST2.out.get2⟩
    · have hie : i = 4 := by omega
      rw [hie, Cs.upto_all HA.out.len HZL.out] at hst
      have hge : ¬ ((i : Int) < 4) := by omega
      have HST := Lib.hid hst
      have HS4 := Lib.hid (show (Cs.clA Z).size = 4 by simp [Cs.clA, HZL.out])
      clear hst hie
      go_wp2_with (first | (refine St.rowIn rfl 24 (.tmp 1) rfl w.heap.size rfl _ HST.out 1 rfl Tryd.underlying24 rfl (by rw [HS4.out]; exact Cs.clInfo) ?_) | (refine St.rowOp rfl 24 (.tmp 2) (.tmp 14) rfl (w.heap.size + 1) (Cs.clA Z) rfl rfl HST.out (by rw [HS4.out]; exact Cs.clInfo) (by rw [HS4.out]; rfl) (Cs.clA_one Z) ?_; intro w9 hst9; have HST9 := Lib.hid hst9; clear hst9 HST))
      refine bodyPost_ret (results_row rfl _ _ (w.heap.size + 1) 24 _ _ rfl (HST9.out.heapAt 0 rfl) Tryd.underlying24 rfl (by rw [HS4.out]; exact Cs.clInfo)) rfl ?_
      exact ⟨rfl, HST9.out.bel⟩

/-- A closure over a class's bytes, whose number stands open. -/
def Cs.Tells (cl : Nat) (caps : Array Value) (p : Nat → Bool) (w0 : World) (μ : List Asrt) : Prop := ∀ (x : Nat), x < 256 → ∀ W ν, St w0 W (ν ++ μ) → Calls Tryd.prog cl (#[.int .i64 x] ++ caps) W fun e w' => e = .returned (.bool (p x)) ∧ Below W.heap.size W w'

set_option maxRecDepth 100000 in
set_option maxHeartbeats 1600000 in
theorem rWhere_any (cl : Nat) (caps : Array Value) (p : Nat → Bool) (w0 w : World) (μ : List Asrt) (hp : Cs.Tells cl caps p w0 μ) (hcf : ∀ args W, (callFunc cl args).run Tryd.prog W = .ok (.enter cl args) W) (h : St w0 w μ) :
    Calls Tryd.prog 73 #[.func (.func cl) #[] caps] w fun e w' => e = .returned (Cs.clV (Cs.of p)) ∧ Below w.heap.size w w' := by
  have hst := ((h.alloc (Cs.clA Dm.zero) 24).alloc (Cs.clA Dm.zero) 24)
  simp only [World.size_alloc] at hst
  have HST := Lib.hid hst
  have HB := Lib.hid (((Below.refl w.heap.size w).alloc (Nat.le_refl _) (.cells (Cs.clA Dm.zero) 24)).alloc (by simp) (.cells (Cs.clA Dm.zero) 24))
  have HP := Lib.hid hp
  obtain ⟨Z, hZ⟩ : ∃ Z, Cs.of p = Z := ⟨_, rfl⟩
  rw [hZ]
  have HZ := Lib.hid hZ
  clear hst hp hZ h
  go_enter Tryd.func73, Tryd.ntmps73
  go_wp2_with (fail)
  go_loopg [4] 256 (fun gz v4 wr => ∃ b : Nat, b ≤ 256 ∧ gz = 256 - b ∧ v4 = .int .i64 b ∧ Below w.heap.size w wr ∧ St w0 wr (aCel (w.heap.size + 1) 24 (Cs.clA (Cs.of fun x => p x && decide (x < b))) :: aCel w.heap.size 24 (Cs.clA Dm.zero) :: μ))
  case atStart =>
    refine ⟨0, by omega, by omega, rfl, HB.out, ?_⟩
    rw [show (Cs.of fun x => p x && decide (x < 0)) = Dm.zero from by
      rw [← Cs.of_false]
      exact Cs.of_congr fun x hx => by simp]
    exact HST.out
  case round =>
    clear HST HB
    obtain ⟨b, hb, hgz, rfl, hB, hst⟩ := hrel
    have HGZ := Lib.hid hgz
    clear hgz
    by_cases hlt : b < 256
    · have hltI : (b : Int) < 256 := by omega
      have HC := Lib.hid (HP.out b hlt wr [aCel (w.heap.size + 1) 24 (Cs.clA (Cs.of fun x => p x && decide (x < b))), aCel w.heap.size 24 (Cs.clA Dm.zero)] hst)
      have HST := Lib.hid hst
      have HB := Lib.hid hB
      obtain ⟨B, hBB⟩ : ∃ B, p b = B := ⟨_, rfl⟩
      rw [hBB] at HC
      have HBB := Lib.hid hBB
      clear hst hB hBB
      go_wp2_with (fail)
      refine (HC.out).mono ?_
      rintro e w5 ⟨rfl, hb5⟩
      have hst5 := HST.out.call hb5
      have HB5 := Lib.hid (HB.out.trans (hb5.mono HB.out.size))
      clear hb5 HST HB HC
      cases B
      · have HE := Lib.hid (show (Cs.of fun x => p x && decide (x < b)) = (Cs.of fun x => p x && decide (x < b + 1)) from Cs.of_congr fun x hx => by
          by_cases hxb : x = b
          · subst hxb; rw [HBB.out]; simp
          · congr 1; rw [Bool.eq_iff_iff, decide_eq_true_iff, decide_eq_true_iff]; omega)
        rw [HE.out] at hst5
        have HST5 := Lib.hid hst5
        clear hst5
        go_wp2
        go_roundg (256 - (b + 1))
        case measure => have := HGZ.out; omega
        case rel => exact ⟨b + 1, by omega, rfl, by go_num, HB5.out, HST5.out⟩
      · have HPT := Lib.hid (Cs.of_put (p := fun x => p x && decide (x < b)) (q := fun x => p x && decide (x < b + 1)) hlt (fun x hx => by
          by_cases hxb : b = x
          · subst hxb; rw [HBB.out]; simp
          · have : decide (x < b + 1) = decide (x < b) := by rw [Bool.eq_iff_iff, decide_eq_true_iff, decide_eq_true_iff]; omega
            rw [this]; simp [hxb]))
        have h4 := Cs.ok_of (fun x => p x && decide (x < b))
        unfold Dm.put at HPT
        generalize (Cs.of fun x => p x && decide (x < b)) = ws at *
        have hltw := h4.lt (b / 64)
        have hget := Cs.clA_get (ws := ws) (j := b / 64) (by rw [h4.len]; omega)
        have hst2 := hst5.drew.setCel (b / 64) (Cs.wV (ws.getD (b / 64) 0 ||| 2 ^ (b % 64)))
        rw [Cs.clA_set, HPT.out] at hst2
        unfold Cs.wV at hget hst2
        have c0 := hst5.drew.celAt hget
        have f0 := hst5.drew.celFree (b / 64)
        have HST2 := Lib.hid hst2
        have HB6 := Lib.hid (HB5.out.drew.setCell (p := ⟨w.heap.size + 1, b / 64, none⟩) (by simp) (.int .u64 ((ws.getD (b / 64) 0 ||| 2 ^ (b % 64) : Nat) : Int)))
        have hpow : 2 ^ (b % 64) < 18446744073709551616 := Nat.pow_lt_pow_right (a := 2) (m := b % 64) (n := 64) (by decide) (by omega)
        have hor : bits .or .u64 ((ws.getD (b / 64) 0 : Nat) : Int) ((2 ^ (b % 64) : Nat) : Int) = ((ws.getD (b / 64) 0 ||| 2 ^ (b % 64) : Nat) : Int) := bits_or_u64_nat _ _ hltw hpow
        have hsh : IntKind.u64.wrap ((2 : Int) ^ (b % 64)) = ((2 ^ (b % 64) : Nat) : Int) := by
          have e : ((2 : Int) ^ (b % 64)) = ((2 ^ (b % 64) : Nat) : Int) := by simp
          rw [e, IntKind.wrap_u64]
          exact Int.emod_eq_of_lt (Int.natCast_nonneg _) (Int.ofNat_lt.2 hpow)
        have hrem : (b : Int) % 64 = ((b % 64 : Nat) : Int) := by omega
        have hqt : (b : Int).tdiv 64 = (b : Int) / 64 := Int.tdiv_eq_ediv_of_nonneg (by omega)
        have hrt : (b : Int).tmod 64 = ((b % 64 : Nat) : Int) := by rw [Int.tmod_eq_emod_of_nonneg (by omega)]; omega
        have hq : ((b % 64 : Nat) : Int) < 64 := by omega
        generalize ((2 ^ (b % 64) : Nat) : Int) = z at *
        generalize (ws.getD (b / 64) 0 ||| 2 ^ (b % 64)) = u at *
        generalize ws.getD (b / 64) 0 = y at *
        generalize b % 64 = q at *
        have hd0 : (0 : Int) ≤ (b : Int) / 64 := by omega
        have hd1 : (b : Int) / 64 < 4 := by omega
        have hdn : ((b : Int) / 64).toNat = b / 64 := by omega
        have hwq : IntKind.i64.wrap ((b : Int) / 64) = (b : Int) / 64 := by rw [IntKind.wrap_i64]; omega
        clear hltw h4 hst5 hget hst2 hpow HPT
        go_wp2_with (fail)
        refine wp_region_held_drew (S := (fun w' => True)) (by kernel_rfl) ?_ (fun hHeld => ?_)
        · (try dsimp only); (first | done | exact trivial)

        refine wpAnyH_take (i := 0) (v := ?_) rfl (by kernel_rfl) (by kernel_rfl) (by kernel_rfl) (fun _ _ _ h => h) (Or.inl ⟨by rfl, ?_⟩) (by assumption) ?_
        rotate_left; focus (intro w hSw; (try dsimp only at hSw); go_simp; try (with_reducible rfl); done)
        try simp only [List.getElem_toArray, List.getElem_cons_zero, List.getElem_cons_succ, Act.put, List.setIfInBounds_toArray, List.set_cons_zero, List.set_cons_succ]
        refine wpAnyH_take (i := 4) (v := ?_) rfl (by kernel_rfl) (by kernel_rfl) (by kernel_rfl) (fun _ _ _ h => h) (Or.inl ⟨by rfl, ?_⟩) (by assumption) ?_
        rotate_left; focus (intro w hSw; (try dsimp only at hSw); go_simp; try (with_reducible rfl); done)
        try simp only [List.getElem_toArray, List.getElem_cons_zero, List.getElem_cons_succ, Act.put, List.setIfInBounds_toArray, List.set_cons_zero, List.set_cons_succ]
        refine wpAnyH_take (i := 5) (v := ?_) rfl (by kernel_rfl) (by kernel_rfl) (by kernel_rfl) (fun _ _ _ h => h) (Or.inl ⟨by rfl, ?_⟩) (by assumption) ?_
        rotate_left; focus (intro w hSw; (try dsimp only at hSw); go_simp; try (with_reducible rfl); done)
        try simp only [List.getElem_toArray, List.getElem_cons_zero, List.getElem_cons_succ, Act.put, List.setIfInBounds_toArray, List.set_cons_zero, List.set_cons_succ]
        refine wpAnyH_take (i := 6) (v := ?_) rfl (by kernel_rfl) (by kernel_rfl) (by kernel_rfl) (fun _ _ _ h => h) (Or.inl ⟨by rfl, ?_⟩) (by assumption) ?_
        rotate_left; focus (intro w hSw; (try dsimp only at hSw); go_simp; try (with_reducible rfl); done)
        try simp only [List.getElem_toArray, List.getElem_cons_zero, List.getElem_cons_succ, Act.put, List.setIfInBounds_toArray, List.set_cons_zero, List.set_cons_succ]
        refine wpAnyH_take (i := 1) (v := ?_) rfl (by kernel_rfl) (by kernel_rfl) (by kernel_rfl) (fun _ _ _ h => h) (Or.inl ⟨by rfl, ?_⟩) (by assumption) ?_
        rotate_left; focus (intro w hSw; (try dsimp only at hSw); go_simp; try (with_reducible rfl); done)
        try simp only [List.getElem_toArray, List.getElem_cons_zero, List.getElem_cons_succ, Act.put, List.setIfInBounds_toArray, List.set_cons_zero, List.set_cons_succ]
        refine wpAnyH_take (i := 2) (v := ?_) rfl (by kernel_rfl) (by kernel_rfl) (by kernel_rfl) (fun _ _ _ h => h) (Or.inl ⟨by rfl, ?_⟩) (by assumption) ?_
        rotate_left; focus (intro w hSw; (try dsimp only at hSw); go_simp; try (with_reducible rfl); done)
        try simp only [List.getElem_toArray, List.getElem_cons_zero, List.getElem_cons_succ, Act.put, List.setIfInBounds_toArray, List.set_cons_zero, List.set_cons_succ]
        refine wpAnyH_ready (rs := [3]) (by kernel_rfl) (by simp) ?_
        refine AllReadyH.cons rfl (fun K hK => ?_) AllReadyH.nil
        go_simp
        refine hK.out _ _ ?_ (fun hHeld => ?_)
        · (try dsimp only); (first | done | exact trivial)
        clear hK K
        try simp only [List.getElem_toArray, List.getElem_cons_zero, List.getElem_cons_succ, Act.put, List.setIfInBounds_toArray, List.set_cons_zero, List.set_cons_succ]
        refine wpAnyH_take (i := 7) (v := ?_) rfl (by kernel_rfl) (by kernel_rfl) (by kernel_rfl) (fun _ _ _ h => h) (Or.inl ⟨by rfl, ?_⟩) (by assumption) ?_
        rotate_left; focus (intro w hSw; (try dsimp only at hSw); go_simp; try (with_reducible rfl); done)
        try simp only [List.getElem_toArray, List.getElem_cons_zero, List.getElem_cons_succ, Act.put, List.setIfInBounds_toArray, List.set_cons_zero, List.set_cons_succ]
        refine wpAnyH_take (i := 8) (v := ?_) rfl (by kernel_rfl) (by kernel_rfl) (by kernel_rfl) (fun _ _ _ h => h) (Or.inl ⟨by rfl, ?_⟩) (by assumption) ?_
        rotate_left; focus (intro w hSw; (try dsimp only at hSw); go_simp; try (with_reducible rfl); done)
        try simp only [List.getElem_toArray, List.getElem_cons_zero, List.getElem_cons_succ, Act.put, List.setIfInBounds_toArray, List.set_cons_zero, List.set_cons_succ]
        refine wpAnyH_ready (rs := [9]) (by kernel_rfl) (by simp) ?_
        refine AllReadyH.cons rfl (fun K hK => ?_) AllReadyH.nil
        go_simp
        refine hK.out _ _ ?_ (fun hHeld => ?_)
        · (try dsimp only); (first | done | exact trivial)
        clear hK K
        try simp only [List.getElem_toArray, List.getElem_cons_zero, List.getElem_cons_succ, Act.put, List.setIfInBounds_toArray, List.set_cons_zero, List.set_cons_succ]
        refine wpAnyH_done (by kernel_rfl) ?_ _
        go_wp2
        go_roundg (256 - (b + 1))
        case measure => have := HGZ.out; omega
        case rel => exact ⟨b + 1, by omega, rfl, by go_num, HB6.out, HST2.out⟩
    · have hbe : b = 256 := by omega
      have hge : ¬ ((b : Int) < 256) := by omega
      have he : (Cs.of fun x => p x && decide (x < b)) = Cs.of p := Cs.of_congr fun x hx => by rw [decide_eq_true (by omega), Bool.and_true]
      have hok := Cs.ok_of p
      rw [he, HZ.out] at hst
      rw [HZ.out] at hok
      have HST := Lib.hid (hst.get2)
      have HS4 := Lib.hid (Cs.clA_size hok)
      have HB := Lib.hid hB
      clear hst hok he hbe hB
      go_wp2_with (first | (refine St.rowIn rfl 24 (.tmp 3) rfl (w.heap.size + 1) rfl _ HST.out 1 rfl Tryd.underlying24 rfl (by rw [HS4.out]; exact Cs.clInfo) ?_) | (refine wpList_store_row rfl 24 (.tmp 2) (.tmp 21) rfl w.heap.size (Cs.clA Z) rfl rfl 24 (Cs.clA Dm.zero) (HST.out.heapAt 0 rfl) (by rw [HS4.out]; exact Cs.clInfo) (by rw [HS4.out]; rfl) (Cs.clA_one Z) ?_; have HH := Lib.hid ((HST.out.setRow (Cs.clA Z)).heapAt 0 rfl); have HB9 := Lib.hid (below_setRow HB.out (Nat.le_refl w.heap.size) (Cs.clA Z))))
      refine bodyPost_ret (results_row rfl _ _ w.heap.size 24 _ _ rfl HH.out Tryd.underlying24 rfl (by rw [HS4.out]; exact Cs.clInfo)) rfl ?_
      exact ⟨rfl, HB9.out⟩
end Go.Proofs.YtfelikfppjlcmaaDoor

/-
  Bytes of package class, over math/bits.TrailingZeros64.
-/
namespace Go.Proofs.YtfelikfppjlcmaaDoor
set_option linter.unusedVariables false
set_option linter.unusedSimpArgs false
open Go.ChangeShapes Go.WideShapes Go.ChangeAt Go.RowKit

namespace Tz
theorem key (x a : Nat) (hx : x < 18446744073709551616) (hx0 : x ≠ 0) (hlow : x &&& (18446744073709551616 - x) = a) :
    IntKind.u64.wrap (bits BinOp.and IntKind.u64 (x : Int) (IntKind.u64.wrap (-(x : Int))) * 285870213051353865) / 288230376151711744 = ((a * 285870213051353865 % 18446744073709551616 / 288230376151711744 : Nat) : Int) := by
  have e1 : IntKind.u64.wrap (-(x : Int)) = ((18446744073709551616 - x : Nat) : Int) := by rw [IntKind.wrap_u64]; omega
  rw [e1, bits_and_u64_nat x _ hx (by omega), hlow, IntKind.wrap_u64]
  omega
end Tz

set_option maxHeartbeats 1000000 in
theorem tz64_core (x k idx : Nat) (w : World) (hx0 : ((x : Int) == 0) = false)
    (key : IntKind.u64.wrap (bits BinOp.and IntKind.u64 (x : Int) (IntKind.u64.wrap (-(x : Int))) * 285870213051353865) / 288230376151711744 = (idx : Int))
    (hi : idx < 64) (hk : k < 64) (hcell : w.cell? ⟨1, idx, none⟩ = some (.int .u8 k)) :
    Calls Tryd.prog 104 #[.int .u64 x] w fun e w' => e = .returned (.int .i64 k) ∧ w = w' := by
  go_enter Tryd.func104, Tryd.ntmps104
  go_wp2_with (simp only [key])
  go_ret
  exact ⟨rfl, rfl⟩
theorem tz64_any (x : Nat) (hx : x < 18446744073709551616) (hx0 : x ≠ 0) (w : World) (hT : Tz.Tab w) :
    Calls Tryd.prog 104 #[.int .u64 x] w fun e w' => e = .returned (.int .i64 (Lib.ctz 64 x)) ∧ w = w' := by
  obtain ⟨hlow, hk⟩ := Lib.lowest_bit 64 x hx0 hx
  obtain ⟨hi, htab⟩ := Lib.deBruijn64_at _ hk
  have c0 := hT _ hi
  rw [htab] at c0
  exact tz64_core x _ _ w (by rw [beq_eq_false_iff_ne]; omega) (Tz.key x _ hx hx0 hlow) hi hk c0

namespace Cs
theorem run_index {P : Program} {t e : TypeId} {n : Nat} (ht : P.underlying t = some (.array n e)) (he : P.underlying e = some (.int .u64)) (hs : (P.info? e).map (·.size) = some 1)
    (ws : List Nat) (hl : ws.length = n) (i : Nat) (hi : i < n) (w : World) : (Instr.index t (.agg (clA ws)) (.int .i64 i)).run P w = .ok (.int .u64 (ws.getD i 0 : Nat)) w := by
  cases hq : P.info? e with
  | none => simp [hq] at hs
  | some inf =>
    have hs1 : inf.size = 1 := by simpa [hq] using hs
    have hil : i < ws.length := by omega
    simp [Instr.index, asIntOf, run_underlying ht, run_underlying he, sizeOf, typeInfo, hq, hs1, part, isAgg, hi, hil, clA, wV]
def bI (k : Nat) : Int := k
theorem or64 (i k : Nat) (hk : k < 64) (hi : i < 4) : bits .or .i64 ((64 * i : Nat) : Int) (k : Int) = ((64 * i + k : Nat) : Int) := by
  have h1 : (BitVec.ofInt 64 ((64 * i : Nat) : Int)).toNat = 64 * i := by
    rw [BitVec.ofInt_natCast, BitVec.toNat_ofNat]; exact Nat.mod_eq_of_lt (by omega)
  have h2 : (BitVec.ofInt 64 (k : Int)).toNat = k := by
    rw [BitVec.ofInt_natCast, BitVec.toNat_ofNat]; exact Nat.mod_eq_of_lt (by omega)
  show IntKind.i64.wrap ((BitVec.ofInt 64 ((64 * i : Nat) : Int) ||| BitVec.ofInt 64 (k : Int)).toNat : Nat) = _
  rw [BitVec.toNat_or, h1, h2, show 64 * i = 2 ^ 6 * i by rfl, ← Nat.two_pow_add_eq_or_of_lt (by omega : k < 2 ^ 6), IntKind.wrap_i64]
  omega
end Cs

set_option maxRecDepth 100000 in
set_option maxHeartbeats 1600000 in
theorem clBytes_any (ws : List Nat) (hws : Dm.Ok4 ws) (w : World) (hT : Tz.Tab w) :
    Calls Tryd.prog 90 #[Cs.clV ws] w fun e w' => e = .returned (.string (strOfNums ((Cs.bytesL ws 4).map Cs.bI))) ∧ Below w.heap.size w w' := by
  have HT := Lib.hid hT
  have HW := Lib.hid hws
  have HST := Lib.hid (((St.init w).alloc (Cs.clA ws) 24).nilOwn 5 1)
  have HS4 := Lib.hid (Cs.clA_size hws)
  obtain ⟨Z, hZ⟩ : ∃ Z, strOfNums ((Cs.bytesL ws 4).map Cs.bI) = Z := ⟨_, rfl⟩
  rw [hZ]
  have HZ := Lib.hid hZ
  clear hT hws hZ
  unfold Cs.clV
  go_enter Tryd.func90, Tryd.ntmps90
  go_wp2_with (refine St.rowIn rfl 24 (.tmp 1) rfl w.heap.size rfl _ HST.out 1 rfl Tryd.underlying24 rfl (by rw [HS4.out]; exact Cs.clInfo) ?_)
  go_loopg [3, 7] 4 (fun gz v3 v7 wr => ∃ (i : Nat) (vo : Value), i ≤ 4 ∧ gz = 4 - i ∧ v7 = .int .i64 i ∧ vo = v3 ∧ St w wr [aOwn 5 1 vo (((Cs.bytesL ws i).map Cs.bI).map (Value.int .u8)), aCel w.heap.size 24 (Cs.clA ws)])
  case atStart => exact ⟨0, _, by omega, by omega, rfl, rfl, HST.out⟩
  case round =>
    clear HST
    obtain ⟨i, vo, hi, hgz, rfl, rfl, hst⟩ := hrel
    have HGZ := Lib.hid hgz
    clear hgz
    by_cases hlt : i < 4
    · have hltI : (i : Int) < 4 := by omega
      have hidx : ∀ W, (Instr.index 24 (.agg (Cs.clA ws)) (.int .i64 i)).run Tryd.prog W = .ok (.int .u64 (ws.getD i 0 : Nat)) W := fun W => Cs.run_index Tryd.underlying24 Tryd.underlying22 (by kernel_rfl) ws HW.out.len i hlt W
      have hx0 := HW.out.lt i
      have HBS := Lib.hid (Cs.bytes_succ ws i)
      generalize ws.getD i 0 = x0 at *
      have HX0 := Lib.hid hx0
      have HST := Lib.hid hst
      clear hx0 hst
      go_wp2_with (fail)
      go_loopg [3, 5] x0 (fun gz v3 v5 wr => ∃ (x : Nat) (pre : List Nat) (vo : Value), x ≤ x0 ∧ gz = x ∧ v5 = .int .u64 x ∧ vo = v3 ∧ Hid (pre ++ Cs.bitsL x = Cs.bitsL x0) ∧ St w wr [aOwn 5 1 vo (((Cs.bytesL ws i ++ pre.map fun k => 64 * i + k).map Cs.bI).map (Value.int .u8)), aCel w.heap.size 24 (Cs.clA ws)])
      case atStart => exact ⟨x0, [], _, by omega, rfl, rfl, rfl, Lib.hid rfl, by rw [List.map_nil, List.append_nil]; exact HST.out⟩
      case round =>
        clear HST
        obtain ⟨x, pre, vo, hx, hgz, rfl, rfl, HP, hst⟩ := hrel
        have HGX := Lib.hid hgz
        clear hgz
        by_cases h0 : x = 0
        · have hz : ((x : Int) != 0) = false := by rw [bne_eq_false_iff_eq]; omega
          have hp := HP.out
          rw [h0, Cs.bits_zero, List.append_nil] at hp
          rw [hp, ← HBS.out] at hst
          have HST := Lib.hid hst
          clear hst hp h0
          go_wp2
          go_roundg (4 - (i + 1))
          case measure => have := HGZ.out; omega
          case rel => exact ⟨i + 1, _, by omega, rfl, by go_num, rfl, HST.out⟩
        · have hz : ((x : Int) != 0) = true := by rw [bne_iff_ne]; omega
          have hxl : x < 18446744073709551616 := Nat.lt_of_le_of_lt hx HX0.out
          have HTZ := Lib.hid (tz64_any x hxl h0 wr (fun j hj => bkeep hst.bel (HT.out j hj)))
          have hstep := Cs.bits_step h0 hxl
          have hand : bits .and .u64 (x : Int) ((x : Int) - 1) = ((x &&& (x - 1) : Nat) : Int) := by
            have := bits_and_u64_nat x (x - 1) hxl (by omega)
            rw [← this]; congr 1; omega
          have hsub : IntKind.u64.wrap ((x : Int) - 1) = (x : Int) - 1 := by rw [IntKind.wrap_u64]; omega
          have hctz := (Cs.low_bit h0 hxl).1
          have hlt2 := Cs.and_pred_lt h0
          have hpl : pre.length ≤ 64 := by
            have := congrArg List.length HP.out
            rw [List.length_append] at this
            have h2 := Cs.bits_len x0
            omega
          have hbl := Cs.bytes_len ws i
          generalize Lib.ctz 64 x = k at *
          generalize x &&& (x - 1) = y at *
          have HP2 := Lib.hid (show (pre ++ [k]) ++ Cs.bitsL y = Cs.bitsL x0 by rw [← HP.out, hstep]; simp)
          have hor : bits .or .i64 ((i : Int) * 64) (k : Int) = ((64 * i + k : Nat) : Int) := by rw [Int.mul_comm]; exact Cs.or64 i k hctz hlt
          have hkm : ((64 * i + k : Nat) : Int) % 256 = ((64 * i + k : Nat) : Int) := by omega
          have hkk : ((64 * i + k : Nat) : Int) < 256 := by omega
          have HAP := Lib.hid (show ((Cs.bytesL ws i ++ pre.map fun k => 64 * i + k).map Cs.bI).map (Value.int .u8) ++ [.int .u8 ((64 * i + k : Nat) : Int)] = ((Cs.bytesL ws i ++ (pre ++ [k]).map fun k => 64 * i + k).map Cs.bI).map (Value.int .u8) by simp [Cs.bI])
          have HLN := Lib.hid (show (((Cs.bytesL ws i ++ pre.map fun k => 64 * i + k).map Cs.bI).map (Value.int .u8)).length ≤ 400 by simp only [List.length_map, List.length_append]; omega)
          have HST := Lib.hid hst
          have HY := Lib.hid hlt2
          clear hst hstep hpl hbl h0 hlt2 hxl
          generalize hN : 64 * i + k = N at *
          go_wp2_with (fail)
          go_at_call 104
          refine (HTZ.out).mono ?_
          rintro e w6 ⟨rfl, rfl⟩
          go_wp2_with (at_builtin; refine St.app1n u8E rfl (.tmp 13) (.tmp 20) rfl rfl HST.out (.int .u8 (N : Int)) rfl wr.heap.size 1 rfl rfl rfl (by intro q hq; simp [Value.cells] at hq; subst hq; rfl) (by have := HLN.out; unfold maxLen; omega) (by have := HLN.out; omega) ?_; intro g' n' c' w9 hst9; rw [HAP.out] at hst9; have HST9 := Lib.hid hst9; clear hst9 HST)
          go_roundg y
          case measure => have := HGX.out; have := HY.out; omega
          case rel => exact ⟨y, pre ++ [k], _, by have := HY.out; omega, rfl, rfl, rfl, HP2, HST9.out⟩
    · have hie : i = 4 := by omega
      have hge : ¬ ((i : Int) < 4) := by omega
      rw [hie] at hst
      have hcv : (convert 80 9 vo).run Tryd.prog wr = .ok (.string (strOfNums ((Cs.bytesL ws 4).map Cs.bI))) wr := convOwn Tryd.underlying80 Tryd.underlying5 Tryd.underlying9 _ (hst.ok _ (.head _))
      rw [HZ.out] at hcv
      have HST := Lib.hid hst
      clear hst hie
      go_wp2
      go_ret
      exact ⟨rfl, HST.out.bel⟩
end Go.Proofs.YtfelikfppjlcmaaDoor

/-
  Count of package class, over math/bits.OnesCount64.
-/
namespace Go.Proofs.YtfelikfppjlcmaaDoor
set_option linter.unusedVariables false
set_option linter.unusedSimpArgs false
open Go.ChangeShapes Go.WideShapes Go.ChangeAt Go.RowKit

namespace Cs
theorem band (a b : Nat) (c : Nat) (ha : a < 18446744073709551616) (hb : b < 18446744073709551616) (h : a &&& b = c) : bits .and .u64 (a : Int) (b : Int) = (c : Int) := by rw [bits_and_u64_nat a b ha hb, h]
theorem wadd (a b c : Nat) (h : a + b = c) (hc : c < 18446744073709551616) : IntKind.u64.wrap ((a : Int) + (b : Int)) = (c : Int) := by rw [IntKind.wrap_u64]; omega
theorem band127 (a : Nat) (ha : a < 9223372036854775808) : bits .and .i64 (a : Int) 127 = ((a % 128 : Nat) : Int) := by
  have h1 : (BitVec.ofInt 64 (a : Int)).toNat = a := by
    rw [BitVec.ofInt_natCast, BitVec.toNat_ofNat]; exact Nat.mod_eq_of_lt (by omega)
  have h2 : (BitVec.ofInt 64 127).toNat = 2 ^ 7 - 1 := by decide
  show IntKind.i64.wrap ((BitVec.ofInt 64 (a : Int) &&& BitVec.ofInt 64 127).toNat : Nat) = _
  rw [BitVec.toNat_and, h1, h2, Nat.and_two_pow_sub_one_eq_mod, IntKind.wrap_i64]
  omega
end Cs

set_option maxRecDepth 100000 in
set_option maxHeartbeats 1000000 in
theorem ones_core (x a1 b1 x1 a2 b2 x2 y2 x3 x4 x5 x6 n : Nat) (w : World)
    (h1 : bits .and .u64 ((x : Int) / 2) 6148914691236517205 = (a1 : Int)) (h2 : bits .and .u64 (x : Int) 6148914691236517205 = (b1 : Int)) (h3 : IntKind.u64.wrap ((a1 : Int) + (b1 : Int)) = (x1 : Int))
    (h4 : bits .and .u64 ((x1 : Int) / 4) 3689348814741910323 = (a2 : Int)) (h5 : bits .and .u64 (x1 : Int) 3689348814741910323 = (b2 : Int)) (h6 : IntKind.u64.wrap ((a2 : Int) + (b2 : Int)) = (x2 : Int))
    (h7 : IntKind.u64.wrap ((x2 : Int) / 16 + (x2 : Int)) = (y2 : Int)) (h8 : bits .and .u64 (y2 : Int) 1085102592571150095 = (x3 : Int))
    (h9 : IntKind.u64.wrap ((x3 : Int) + (x3 : Int) / 256) = (x4 : Int)) (h10 : IntKind.u64.wrap ((x4 : Int) + (x4 : Int) / 65536) = (x5 : Int)) (h11 : IntKind.u64.wrap ((x5 : Int) + (x5 : Int) / 4294967296) = (x6 : Int))
    (h12 : IntKind.i64.wrap (x6 : Int) = (x6 : Int)) (h13 : bits .and .i64 (x6 : Int) 127 = (n : Int)) :
    Calls Tryd.prog 126 #[.int .u64 x] w fun e w' => e = .returned (.int .i64 n) ∧ w = w' := by
  go_enter Tryd.func126, Tryd.ntmps126
  go_wp2
  go_ret
  exact ⟨rfl, rfl⟩

theorem Cs.lanes_third : ∀ n x, 3 * Cs.lanes (fun e => Cs.s2 (Cs.s1 e)) n x + 1 ≤ 256 ^ n
  | 0, x => by simp [Cs.lanes]
  | n + 1, x => by
    have h1 := Cs.s2_ok (x % 256) (Nat.mod_lt _ (by decide))
    have h2 := Cs.lanes_third n (x / 256)
    simp only [Cs.lanes]
    rw [Nat.pow_succ]
    omega

theorem ones_any (x : Nat) (hx : x < 18446744073709551616) (w : World) :
    Calls Tryd.prog 126 #[.int .u64 x] w fun e w' => e = .returned (.int .i64 ((Cs.bitsL x).length : Nat)) ∧ w = w' := by
  have l1 := Cs.lanes_lt Cs.s1_lt 8 x
  have l2 := Cs.lanes_third 8 x
  have l3 := Cs.lanes_lt (h := Cs.p8) (fun e _ => Nat.lt_of_le_of_lt (Cs.p8_le e) (by decide)) 8 x
  rw [show (256 : Nat) ^ 8 = 18446744073709551616 by decide] at l1 l2 l3
  have p1 := Cs.pop1 x
  have p2 := Cs.pop2 x
  have p3 := Cs.pop3 x
  obtain ⟨x4, hx4⟩ : ∃ y, y = Cs.lanes Cs.p8 8 x + Cs.lanes Cs.p8 8 x / 256 := ⟨_, rfl⟩
  obtain ⟨x5, hx5⟩ : ∃ z, z = x4 + x4 / 65536 := ⟨_, rfl⟩
  obtain ⟨x6, hx6⟩ : ∃ v, v = x5 + x5 / 4294967296 := ⟨_, rfl⟩
  obtain ⟨q1, q2, q3, q4⟩ := Cs.pop_all x hx x4 x5 x6 hx4 hx5 hx6
  rw [← q4]
  generalize Cs.lanes Cs.s1 8 x = x1 at *
  generalize Cs.lanes (fun e => Cs.s2 (Cs.s1 e)) 8 x = x2 at *
  generalize Cs.lanes Cs.p8 8 x = x3 at *
  refine ones_core x (x / 2 &&& 6148914691236517205) (x &&& 6148914691236517205) x1 (x1 / 4 &&& 3689348814741910323) (x1 &&& 3689348814741910323) x2 (x2 / 16 + x2) x3 x4 x5 x6 (x6 % 128) w ?_ ?_ ?_ ?_ ?_ ?_ ?_ ?_ ?_ ?_ ?_ ?_ ?_
  · exact Cs.band (x / 2) 6148914691236517205 _ (by omega) (by decide) rfl
  · exact Cs.band x 6148914691236517205 _ hx (by decide) rfl
  · exact Cs.wadd _ _ _ p1 l1
  · exact Cs.band (x1 / 4) 3689348814741910323 _ (by omega) (by decide) rfl
  · exact Cs.band x1 3689348814741910323 _ l1 (by decide) rfl
  · exact Cs.wadd _ _ _ p2 (by omega)
  · exact Cs.wadd (x2 / 16) _ _ rfl (by omega)
  · exact Cs.band (x2 / 16 + x2) 1085102592571150095 _ (by omega) (by decide) p3
  · exact Cs.wadd _ (x3 / 256) _ hx4.symm (by omega)
  · exact Cs.wadd _ (x4 / 65536) _ hx5.symm (by omega)
  · exact Cs.wadd _ (x5 / 4294967296) _ hx6.symm (by omega)
  · rw [IntKind.wrap_i64]; omega
  · exact Cs.band127 _ q1

set_option maxRecDepth 100000 in
set_option maxHeartbeats 1600000 in
theorem clCount_any (ws : List Nat) (hws : Dm.Ok4 ws) (w : World) :
    Calls Tryd.prog 105 #[Cs.clV ws] w fun e w' => e = .returned (.int .i64 ((Cs.bytesL ws 4).length : Nat)) ∧ Below w.heap.size w w' := by
  have HW := Lib.hid hws
  have HST := Lib.hid ((St.init w).alloc (Cs.clA ws) 24)
  have HS4 := Lib.hid (Cs.clA_size hws)
  obtain ⟨Z, hZ⟩ : ∃ Z, (Cs.bytesL ws 4).length = Z := ⟨_, rfl⟩
  rw [hZ]
  have HZ := Lib.hid hZ
  clear hws hZ
  unfold Cs.clV
  go_enter Tryd.func105, Tryd.ntmps105
  go_wp2_with (refine St.rowIn rfl 24 (.tmp 1) rfl w.heap.size rfl _ HST.out 0 rfl Tryd.underlying24 rfl (by rw [HS4.out]; exact Cs.clInfo) ?_)
  go_loopg [3, 7] 4 (fun gz v3 v7 wr => ∃ (i : Nat), i ≤ 4 ∧ gz = 4 - i ∧ v7 = .int .i64 i ∧ v3 = .int .i64 ((Cs.bytesL ws i).length : Nat) ∧ St w wr [aCel w.heap.size 24 (Cs.clA ws)])
  case atStart => exact ⟨0, by omega, by omega, rfl, rfl, HST.out⟩
  case round =>
    clear HST
    obtain ⟨i, hi, hgz, rfl, rfl, hst⟩ := hrel
    have HGZ := Lib.hid hgz
    clear hgz
    by_cases hlt : i < 4
    · have hltI : (i : Int) < 4 := by omega
      have hidx : ∀ W, (Instr.index 24 (.agg (Cs.clA ws)) (.int .i64 i)).run Tryd.prog W = .ok (.int .u64 (ws.getD i 0 : Nat)) W := fun W => Cs.run_index Tryd.underlying24 Tryd.underlying22 (by kernel_rfl) ws HW.out.len i hlt W
      have HON := Lib.hid (ones_any (ws.getD i 0) (HW.out.lt i) wr)
      have hbs := congrArg List.length (Cs.bytes_succ ws i)
      rw [List.length_append, List.length_map] at hbs
      have h1 := Cs.bytes_len ws i
      have h2 := Cs.bits_len (ws.getD i 0)
      generalize ws.getD i 0 = x0 at *
      generalize (Cs.bytesL ws i).length = A at *
      generalize (Cs.bitsL x0).length = C at *
      have HBS := Lib.hid hbs
      have hA : (A : Int) ≤ 256 := by omega
      have hC : (C : Int) ≤ 64 := by omega
      have HST := Lib.hid hst
      clear hst hbs h1 h2
      go_wp2_with (fail)
      go_at_call 126
      refine (HON.out).mono ?_
      rintro e w6 ⟨rfl, rfl⟩
      go_wp2
      go_roundg (4 - (i + 1))
      case measure => have := HGZ.out; omega
      case rel => exact ⟨i + 1, by omega, rfl, by go_num, congrArg (Value.int .i64) (by have := HBS.out; omega), HST.out⟩
    · have hie : i = 4 := by omega
      have hge : ¬ ((i : Int) < 4) := by omega
      rw [hie, HZ.out]
      have HST := Lib.hid hst
      clear hst hie
      go_wp2
      go_ret
      exact ⟨rfl, HST.out.bel⟩
end Go.Proofs.YtfelikfppjlcmaaDoor

/-
  The closures of the law ClassSays.
-/
namespace Go.Proofs.YtfelikfppjlcmaaDoor
set_option linter.unusedVariables false
set_option linter.unusedSimpArgs false
open Go.ChangeShapes Go.WideShapes Go.ChangeAt Go.RowKit

namespace Cs
theorem has_words (ws : List Nat) (h : Dm.Ok4 ws) (b : Nat) (hb : b < 256) (W : World) : Calls Tryd.prog 64 #[clV ws, .int .i64 b] W fun e w' => e = .returned (.bool (Dm.mem ws b)) ∧ Below W.heap.size W w' := by
  have := rHas_any (clA ws) (ws.map fun n : Nat => (n : Int)) b hb W (by simp [clA, wV]) (by rw [List.length_map]; exact h.len) (fun x hx => by
    obtain ⟨n, hn, rfl⟩ := List.mem_map.1 hx
    obtain ⟨j, hj, rfl⟩ := List.getElem_of_mem hn
    have h2 := h.lt j
    rw [show ws.getD j 0 = ws[j] by simp [List.getD, List.getElem?_eq_getElem hj]] at h2
    exact ⟨Int.natCast_nonneg _, Int.ofNat_lt.2 h2⟩)
  rw [has_mem] at this
  exact this
theorem phas_words (ws : List Nat) (h : Dm.Ok4 ws) (b : Nat) (hb : b < 256) (W : World) : Calls Tryd.prog 24 #[clV ws, .int .u8 b] W fun e w' => e = .returned (.bool (Dm.mem ws b)) ∧ Below W.heap.size W w' := by
  have := has_any (clA ws) (ws.map fun n : Nat => (n : Int)) b hb W (by simp [clA, wV]) (by rw [List.length_map]; exact h.len) (fun x hx => by
    obtain ⟨n, hn, rfl⟩ := List.mem_map.1 hx
    obtain ⟨j, hj, rfl⟩ := List.getElem_of_mem hn
    have h2 := h.lt j
    rw [show ws.getD j 0 = ws[j] by simp [List.getD, List.getElem?_eq_getElem hj]] at h2
    exact ⟨Int.natCast_nonneg _, Int.ofNat_lt.2 h2⟩)
  rw [has_mem] at this
  exact this
theorem at4 {w0 w : World} {μ : List Asrt} {g : Nat} {T : TypeId} {a b c d : Nat} (h : St w0 w μ) (i : Nat) (hA : μ[i]? = some (aCel g T (clA [a, b, c, d]))) :
    w.cell? ⟨g, 0, none⟩ = some (.int .u64 a) ∧ w.cell? ⟨g, 1, none⟩ = some (.int .u64 b) ∧ w.cell? ⟨g, 2, none⟩ = some (.int .u64 c) ∧ w.cell? ⟨g, 3, none⟩ = some (.int .u64 d) :=
  ⟨(h.nth i hA).celAt rfl, (h.nth i hA).celAt rfl, (h.nth i hA).celAt rfl, (h.nth i hA).celAt rfl⟩
end Cs

end Go.Proofs.YtfelikfppjlcmaaDoor

/-
  items of package rex: the runs of a class.
-/
namespace Go.Proofs.YtfelikfppjlcmaaDoor
set_option linter.unusedVariables false
set_option linter.unusedSimpArgs false
open Go.ChangeShapes Go.WideShapes Go.ChangeAt Go.RowKit

namespace Rct
/-- The bytes of a class, as a text. -/
structure Txt (p : Nat → Bool) (S : ByteArray) : Prop where
  size : S.size = (lst p).length
  get : ∀ k (h : k < S.size), (((S[k]'h).toNat : Nat) : Int) = (nth p k : Int)
theorem txt_of (p : Nat → Bool) : Txt p (strOfNums ((lst p).map Cs.bI)) := by
  have hs : (strOfNums ((lst p).map Cs.bI)).size = (lst p).length := by simp [strOfNums, ByteArray.size]
  refine ⟨hs, fun k hk => ?_⟩
  rw [hs] at hk
  have h1 := (nth_in hk).1
  have e : nth p k = (lst p)[k] := by unfold nth; simp [List.getD, List.getElem?_eq_getElem hk]
  have e2 : (strOfNums ((lst p).map Cs.bI))[k] = ((lst p)[k]).toUInt8 := by
    simp [strOfNums, Cs.bI, ByteArray.getElem_eq_getElem_data]
  rw [e2, ← e]
  simp
  omega
end Rct

set_option maxRecDepth 100000 in
set_option maxHeartbeats 4000000 in
theorem rxItems_any (ws : List Nat) (hw : Dm.Ok4 ws) (w : World) (hT : Tz.Tab w) :
    Calls Tryd.prog 107 #[Cs.clV ws] w fun e w' => e = .returned (.string (Rct.runs (Dm.mem ws))) ∧ Below w.heap.size w w' := by
  have HT := Lib.hid hT
  obtain ⟨a0, a1, a2, a3, rfl⟩ := Cs.okFour hw
  have HB := Lib.hid (fun W (h : Below w.heap.size w W) => clBytes_any [a0, a1, a2, a3] hw W (fun j hj => bkeep h (hT j hj)))
  rw [Cs.bytes_all] at HB
  have htx := Rct.txt_of (Dm.mem [a0, a1, a2, a3])
  rw [show (List.range 256).filter (Dm.mem [a0, a1, a2, a3]) = Rct.lst (Dm.mem [a0, a1, a2, a3]) from rfl] at HB
  obtain ⟨S, hS⟩ : ∃ S, strOfNums ((Rct.lst (Dm.mem [a0, a1, a2, a3])).map Cs.bI) = S := ⟨_, rfl⟩
  rw [hS] at HB htx
  clear hS
  have HST := Lib.hid ((St.init w).alloc #[.int .u64 a0, .int .u64 a1, .int .u64 a2, .int .u64 a3] 24)
  rw [show Cs.clV [a0, a1, a2, a3] = .agg #[.int .u64 a0, .int .u64 a1, .int .u64 a2, .int .u64 a3] from rfl] at HB ⊢
  generalize Dm.mem [a0, a1, a2, a3] = p at *
  have HTX := Lib.hid htx
  have hsz : S.size ≤ 256 := by rw [htx.size]; exact Rct.lst_len
  have HZ := Lib.hid htx.size
  clear hT hw htx
  obtain ⟨R, hR⟩ : ∃ R, Rct.runs p = R := ⟨_, rfl⟩
  rw [hR]
  have HR := Lib.hid hR
  clear hR
  go_enter Tryd.func107, Tryd.ntmps107
  go_wp2_with (fail)
  go_at_call 90
  refine (HB.out _ HST.out.bel).mono ?_
  rintro e w1 ⟨rfl, hb1⟩
  have HST := Lib.hid (HST.out.call hb1)
  clear hb1 HB
  go_wp2_with (fail)
  go_loopg [4, 5] S.size (fun gz v4 v5 wr => ∃ (i : Nat) (out : ByteArray), i ≤ S.size ∧ gz = S.size - i ∧ v5 = .int .i64 i ∧ v4 = .string out ∧ Hid (Rct.At p i out) ∧ Below w.heap.size w wr)
  case atStart => exact ⟨0, ⟨#[]⟩, by omega, by omega, rfl, rfl, Lib.hid Rct.at_zero, HST.out.bel⟩
  case round =>
    clear HST
    obtain ⟨i, out, hi, hgz, rfl, rfl, HAT, hB⟩ := hrel
    have HGZ := Lib.hid hgz
    clear hgz
    by_cases hlt : i < S.size
    · have hltI : (i : Int) < S.size := by omega
      have hos : out.size ≤ 2304 := by
        rw [HAT.out.1]
        have := Rct.runsK_size (p := p) (Rct.nth_le (p := p) i)
        have := Rct.nth_le (p := p) i
        omega
      go_wp2_with (fail)
      go_loopg [6] (S.size - i) (fun gy v6 wr => ∃ k : Nat, i ≤ k ∧ k < S.size ∧ gy = S.size - k ∧ v6 = .int .i64 k ∧ Hid (Rct.fin p (Rct.nth p i) = Rct.fin p (Rct.nth p k) ∧ Rct.nth p k = Rct.nth p i + (k - i)) ∧ Below w.heap.size w wr)
      case atStart => exact ⟨i, by omega, hlt, rfl, rfl, Lib.hid ⟨rfl, by omega⟩, hB⟩
      case round =>
        clear hB
        obtain ⟨k, hik, hks, hgy, rfl, HF, hB⟩ := hrel
        have HGY := Lib.hid hgy
        clear hgy
        have gk := HTX.out.get k hks
        obtain ⟨hk1, hk2⟩ := Rct.nth_in (p := p) (i := k) (by rw [← HTX.out.size]; exact hks)
        have hwk : IntKind.i64.wrap ((k : Int) + 1) = ((k + 1 : Nat) : Int) := (IntWalk.i64_in _ (by omega)).trans (by omega)
        by_cases hg : k + 1 < S.size ∧ Rct.nth p (k + 1) = Rct.nth p k + 1
        · obtain ⟨hg1, hg2⟩ := hg
          have hg1I : (k : Int) + 1 < S.size := by omega
          have hgd : decide ((k : Int) + 1 < (S.size : Int)) = true := decide_eq_true hg1I
          have gk1 := HTX.out.get (k + 1) hg1
          have hk3 := (Rct.nth_in (p := p) (i := k + 1) (by rw [← HTX.out.size]; exact hg1)).1
          have HFN := Lib.hid (Rct.fin_on (p := p) (k := k) (by rw [← HTX.out.size]; exact hks) ⟨by rw [← HTX.out.size]; exact hg1, hg2⟩)
          have hx1 : ((Rct.nth p (k + 1) : Nat) : Int) = ((Rct.nth p k : Nat) : Int) + 1 := by omega
          rw [hx1] at gk1
          have hw8 : IntKind.u8.wrap (((Rct.nth p k : Nat) : Int) + 1) = ((Rct.nth p k : Nat) : Int) + 1 := IntWalk.u8_in _ (by omega)
          have HD := Lib.hid (show Rct.nth p (k + 1) = Rct.nth p i + (k + 1 - i) by have := HF.out.2; omega)
          have HN := Lib.hid fun n => below_drewN hB n
          clear hx1 hg2 hk2 hB hk3
          generalize Rct.nth p k = x at *
          go_wp2_with (fail)
          go_quiet (fail)
          have hB := HN.out nq
          go_wp2
          go_roundg (S.size - (k + 1))
          case measure => have := HGY.out; omega
          case rel => exact ⟨k + 1, by omega, hg1, rfl, by go_num, Lib.hid ⟨HF.out.1.trans HFN.out, HD.out⟩, hB⟩
        · have hlst : k < (Rct.lst p).length := by rw [← HTX.out.size]; exact hks
          have hg' : ¬ (k + 1 < (Rct.lst p).length ∧ Rct.nth p (k + 1) = Rct.nth p k + 1) := by rw [← HTX.out.size]; exact hg
          have hfe := HF.out.1.trans (Rct.fin_off hlst hg')
          have HNX := Lib.hid (Rct.at_next hik hlst HAT.out hfe hg')
          have gi := HTX.out.get i hlt
          have hni := (Rct.nth_in (p := p) (i := i) (by rw [← HTX.out.size]; exact hlt)).1
          have HC1 := Lib.hid (fun W => rxChar_any (Rct.nth p i) hni W)
          have HC2 := Lib.hid (fun W => rxChar_any (Rct.nth p k) hk1 W)
          have hcs1 := Rct.ct_size _ hni
          have hcs2 := Rct.ct_size _ hk1
          have HADD := Lib.hid (show Rct.addR out (Rct.nth p i) (Rct.nth p k) = if Rct.nth p i < Rct.nth p k then (if Rct.nth p i + 1 < Rct.nth p k then out ++ Rct.ct (Rct.nth p i) ++ ⟨#[45]⟩ else out ++ Rct.ct (Rct.nth p i)) ++ Rct.ct (Rct.nth p k) else out ++ Rct.ct (Rct.nth p i) from rfl)
          have HUP := Lib.hid (Rct.nth_up hlst)
          have hkd := HF.out.2
          rw [hkd] at HADD
          have hd1 : Rct.nth p i < Rct.nth p i + (k - i) ↔ i < k := by omega
          have hd2 : Rct.nth p i + 1 < Rct.nth p i + (k - i) ↔ i + 1 < k := by omega
          simp only [hd1, hd2] at HADD
          rw [hkd] at HNX gk HC2 hcs2 HUP hg hk1
          generalize hN2 : Rct.nth p i + (k - i) = nk at *
          obtain ⟨T, hT2⟩ : ∃ T, Rct.addR out (Rct.nth p i) nk = T := ⟨_, rfl⟩
          rw [hT2] at HNX HADD
          have HN := Lib.hid fun n => below_drewN hB n
          have hwr2 : IntKind.i64.wrap ((i : Int) + 1) = ((i + 1 : Nat) : Int) := (IntWalk.i64_in _ (by omega)).trans (by omega)
          have HSC : Hid (S.size ≤ 256) := Lib.hid hsz
          have step : Hid (∀ (ct1 : ByteArray), ct1.size ≤ 4 → ∀ W, (Op.stringOp .add out ct1).run Tryd.prog W = .ok (.string (out ++ ct1)) W) := Lib.hid fun ct1 h W => run_string_add_sum W _ _ (by omega)
          have hadd1 : ∀ W, (Op.stringOp .add out (Rct.ct (Rct.nth p i))).run Tryd.prog W = .ok (.string (out ++ Rct.ct (Rct.nth p i))) W := step.out _ hcs1
          have hs1 : (out ++ Rct.ct (Rct.nth p i)).size ≤ 2308 := by rw [ByteArray.size_append]; omega
          clear hkd hT2 hN2 hd1 hd2 hfe hg' hlst hk2 hB HAT HF
          generalize Rct.ct (Rct.nth p i) = c1 at *
          generalize Rct.ct nk = c2 at *
          generalize Rct.nth p i = ni at *
          generalize hO1 : out ++ c1 = o1 at *
          clear hO1
          have hadd2 : ∀ W, (Op.stringOp .add o1 ⟨#[45]⟩).run Tryd.prog W = .ok (.string (o1 ++ ⟨#[45]⟩)) W := fun W => run_string_add_sum W _ _ (by show o1.size + 1 ≤ _; omega)
          have hs2 : (o1 ++ ⟨#[45]⟩).size ≤ 2309 := by rw [ByteArray.size_append]; show o1.size + 1 ≤ _; omega
          have hadd3 : ∀ W, (Op.stringOp .add o1 c2).run Tryd.prog W = .ok (.string (o1 ++ c2)) W := fun W => run_string_add_sum W _ _ (by omega)
          generalize hO2 : o1 ++ ⟨#[45]⟩ = o2 at *
          clear hO2
          have hadd4 : ∀ W, (Op.stringOp .add o2 c2).run Tryd.prog W = .ok (.string (o2 ++ c2)) W := fun W => run_string_add_sum W _ _ (by omega)
          generalize hO3 : o2 ++ c2 = o3 at *
          generalize hO4 : o1 ++ c2 = o4 at *
          have HO3 := Lib.hid hO3; have HO4 := Lib.hid hO4
          clear hO3 hO4 hs1 hs2
          by_cases hg1 : k + 1 < S.size
          · have hg1I : (k : Int) + 1 < S.size := by omega
            have hgd : decide ((k : Int) + 1 < (S.size : Int)) = true := decide_eq_true hg1I
            have gk1 := HTX.out.get (k + 1) hg1
            have hn1 := (Rct.nth_in (p := p) (i := k + 1) (by rw [← HTX.out.size]; exact hg1)).1
            have hup := HUP.out
            have hw8 : IntKind.u8.wrap ((nk : Int) + 1) = (nk : Int) + 1 := IntWalk.u8_in _ (by omega)
            have hne : ((Rct.nth p (k + 1) : Nat) : Int) ≠ (nk : Int) + 1 := fun e => hg ⟨hg1, by omega⟩
            have htest : (((Rct.nth p (k + 1) : Nat) : Int) == (nk : Int) + 1) = false := by rw [beq_eq_false_iff_ne]; exact hne
            clear hne hg hup
            generalize Rct.nth p (k + 1) = nx at *
            go_wp2_with (fail)
            go_quiet (fail)
            have HB := Lib.hid (HN.out nq)
            clear HN
            generalize World.drewN _ _ = W2 at *
            go_wp2_with (fail)
            go_at_call 106
            refine (HC1.out _).mono ?_
            rintro e w5 ⟨rfl, hb5⟩
            have HB := Lib.hid (HB.out.trans (hb5.mono HB.out.size))
            clear hb5
            by_cases h1 : i < k
            · have h1I : (i : Int) < k := by omega
              by_cases h2 : i + 1 < k
              · have h2I : (i : Int) + 1 < k := by omega
                have HE := Lib.hid (show T = o3 by rw [HADD.out, if_pos h1, if_pos h2, HO3.out])
                go_wp2_with (fail)
                go_at_call 106
                refine (HC2.out _).mono ?_
                rintro e w6 ⟨rfl, hb6⟩
                have HB := Lib.hid (HB.out.trans (hb6.mono HB.out.size))
                clear hb6
                go_wp2
                go_roundg (S.size - (k + 1))
                case measure => have := HGZ.out; omega
                case rel => exact ⟨k + 1, o3, by omega, rfl, by go_num, rfl, by rw [← HE.out]; exact HNX, HB.out⟩
              · have h2I : ¬ (i : Int) + 1 < k := by omega
                have HE := Lib.hid (show T = o4 by rw [HADD.out, if_pos h1, if_neg h2, HO4.out])
                go_wp2_with (fail)
                go_at_call 106
                refine (HC2.out _).mono ?_
                rintro e w6 ⟨rfl, hb6⟩
                have HB := Lib.hid (HB.out.trans (hb6.mono HB.out.size))
                clear hb6
                go_wp2
                go_roundg (S.size - (k + 1))
                case measure => have := HGZ.out; omega
                case rel => exact ⟨k + 1, o4, by omega, rfl, by go_num, rfl, by rw [← HE.out]; exact HNX, HB.out⟩
            · have h1I : ¬ (i : Int) < k := by omega
              have h2I : ¬ (i : Int) + 1 < k := by omega
              have HE := Lib.hid (show T = o1 by rw [HADD.out, if_neg h1])
              go_wp2
              go_roundg (S.size - (k + 1))
              case measure => have := HGZ.out; omega
              case rel => exact ⟨k + 1, o1, by omega, rfl, by go_num, rfl, by rw [← HE.out]; exact HNX, HB.out⟩
          · have hg1I : ¬ (k : Int) + 1 < S.size := by omega
            have hgd : decide ((k : Int) + 1 < (S.size : Int)) = false := decide_eq_false hg1I
            clear hg
            go_wp2_with (fail)
            go_quiet (fail)
            have HB := Lib.hid (HN.out nq)
            clear HN
            generalize World.drewN _ _ = W2 at *
            go_wp2_with (fail)
            go_at_call 106
            refine (HC1.out _).mono ?_
            rintro e w5 ⟨rfl, hb5⟩
            have HB := Lib.hid (HB.out.trans (hb5.mono HB.out.size))
            clear hb5
            by_cases h1 : i < k
            · have h1I : (i : Int) < k := by omega
              by_cases h2 : i + 1 < k
              · have h2I : (i : Int) + 1 < k := by omega
                have HE := Lib.hid (show T = o3 by rw [HADD.out, if_pos h1, if_pos h2, HO3.out])
                go_wp2_with (fail)
                go_at_call 106
                refine (HC2.out _).mono ?_
                rintro e w6 ⟨rfl, hb6⟩
                have HB := Lib.hid (HB.out.trans (hb6.mono HB.out.size))
                clear hb6
                go_wp2
                go_roundg (S.size - (k + 1))
                case measure => have := HGZ.out; omega
                case rel => exact ⟨k + 1, o3, by omega, rfl, by go_num, rfl, by rw [← HE.out]; exact HNX, HB.out⟩
              · have h2I : ¬ (i : Int) + 1 < k := by omega
                have HE := Lib.hid (show T = o4 by rw [HADD.out, if_pos h1, if_neg h2, HO4.out])
                go_wp2_with (fail)
                go_at_call 106
                refine (HC2.out _).mono ?_
                rintro e w6 ⟨rfl, hb6⟩
                have HB := Lib.hid (HB.out.trans (hb6.mono HB.out.size))
                clear hb6
                go_wp2
                go_roundg (S.size - (k + 1))
                case measure => have := HGZ.out; omega
                case rel => exact ⟨k + 1, o4, by omega, rfl, by go_num, rfl, by rw [← HE.out]; exact HNX, HB.out⟩
            · have h1I : ¬ (i : Int) < k := by omega
              have h2I : ¬ (i : Int) + 1 < k := by omega
              have HE := Lib.hid (show T = o1 by rw [HADD.out, if_neg h1])
              go_wp2
              go_roundg (S.size - (k + 1))
              case measure => have := HGZ.out; omega
              case rel => exact ⟨k + 1, o1, by omega, rfl, by go_num, rfl, by rw [← HE.out]; exact HNX, HB.out⟩
    · have hge : ¬ ((i : Int) < S.size) := by omega
      have HEQ := Lib.hid ((Rct.at_end (by rw [← HZ.out]; exact hlt) HAT.out).trans HR.out)
      go_wp2
      go_ret
      exact ⟨by rw [← HEQ.out]; rfl, hB⟩
end Go.Proofs.YtfelikfppjlcmaaDoor

/-
  each of package rex: the ends from any of some places on.
-/
namespace Go.Proofs.YtfelikfppjlcmaaDoor
set_option linter.unusedVariables false
set_option linter.unusedSimpArgs false
open Go.ChangeShapes Go.WideShapes Go.ChangeAt Go.RowKit

/-- Blocks as they were in a world. -/
def aAs (w1 : World) (fp : List Nat) : Asrt where
  fp := fp
  ok := fun w => ∀ b ∈ fp, w.heap[b]? = w1.heap[b]?
  loc := fun w w' h hw b hb => (h b hb).trans (hw b hb)
theorem St.asCell {w0 w w1 : World} {μ : List Asrt} {fp : List Nat} (h : St w0 w μ) (i : Nat) (hA : μ[i]? = some (aAs w1 fp)) {b o : Nat} {v : Value} (hb : b ∈ fp) (hc : w1.cell? ⟨b, o, none⟩ = some v) : w.cell? ⟨b, o, none⟩ = some v := by
  have h1 := (h.nth i hA).ok _ (.head _) b hb
  rw [← hc]
  exact cell_of_heap h1

/-- Bytes laid out of a string. -/
def aByts (g : Nat) (s : ByteArray) : Asrt where
  fp := [g]
  ok := fun w => ∀ j, j < s.size → w.cell? ⟨g, j, none⟩ = some (.int .u8 (s.data.toList.getD j 0).toNat)
  loc := fun w w' h hw j hj => by rw [← hw j hj]; exact cell_of_heap (h g (by simp))
theorem St.byts {w0 w : World} {μ : List Asrt} (h : St w0 w μ) (e : TypeId) (s : ByteArray) : St w0 (Lib.bytesWorld w e s) (aByts w.heap.size s :: μ) :=
  h.push ⟨rfl, rfl, rfl, by rw [Lib.bytesWorld_size]; omega, fun k hk => Lib.bytesWorld_at_old w e s k hk⟩ (fun j hj => Lib.bytesWorld_cell w e s j hj) (fun b hb => by simp [aByts] at hb; subst hb; rw [Lib.bytesWorld_size]; omega) (by simp [aByts])

namespace Rm
/-- What all of these calls have at hand. -/
abbrev base (E : Nat → Nat → List Nat) (gm gs : Nat) (s : ByteArray) (w1 : World) (fp : List Nat) (μ : List Asrt) : List Asrt := aMemo E gm :: aCel gs 59 #[.string s, .map (some gm)] :: aAs w1 fp :: μ
def Ends (w0 : World) (E : Nat → Nat → List Nat) (gm gs : Nat) (s : ByteArray) (w1 : World) (fp : List Nat) (cs : Array Value) (R : Nat → List Nat) : Prop :=
  ∀ (i : Nat) (μ : List Asrt) (W : World), i ≤ s.size → St w0 W (base E gm gs s w1 fp μ) → Calls Tryd.prog 25 #[.pointer (some ⟨gs, 0, none⟩), .agg cs, .int .i64 i] W fun e w' => e = .returned (Cs.clV (R i)) ∧ St w0 w' (base E gm gs s w1 fp μ)
/-- The ends from any of the places of a list on. -/
def eachL (n : Nat) (a : Nat → Nat → Bool) (L : List Nat) : List Nat := Cs.of fun j => L.any fun m => a m j
theorem eachL_nil (n : Nat) (a : Nat → Nat → Bool) : eachL n a [] = Dm.zero := by rw [← Cs.of_false]; rfl
theorem eachL_snoc (n : Nat) (a : Nat → Nat → Bool) (L : List Nat) (m : Nat) : eachL n a (L ++ [m]) = Cs.zip (· ||| ·) (eachL n a L) (Cs.of (a m)) := by
  rw [show eachL n a L = Cs.of (fun j => L.any fun m => a m j) from rfl, Cs.or_eq (Cs.ok_of _) (Cs.ok_of _)]
  refine Cs.of_congr fun x hx => ?_
  rw [List.any_append]
  rw [Cs.mem_of hx, Cs.mem_of hx]
  simp
theorem eachL_all (n : Nat) (hn : n ≤ 200) (a : Nat → Nat → Bool) (S : List Nat) (hS : ∀ x, x < 256 → Dm.mem S x = true → x ≤ n) : eachL n a (Rct.lst (Dm.mem S)) = each n a S := Cs.of_congr fun x hx => by
  rw [Bool.eq_iff_iff, List.any_eq_true, List.any_eq_true]
  constructor
  · rintro ⟨m, hm, h⟩
    obtain ⟨h1, h2⟩ := List.mem_filter.1 hm
    have h3 := List.mem_range.1 h1
    exact ⟨m, List.mem_range.2 (by have := hS m h3 h2; omega), by rw [h2, h]; rfl⟩
  · rintro ⟨m, hm, h⟩
    rw [Bool.and_eq_true] at h
    exact ⟨m, List.mem_filter.2 ⟨List.mem_range.2 (by have := List.mem_range.1 hm; omega), h.1⟩, h.2⟩
end Rm

set_option maxRecDepth 100000 in
set_option maxHeartbeats 4000000 in
theorem rxEach_any (w0 : World) (hT : Tz.Tab w0) (E : Nat → Nat → List Nat) (gm gs : Nat) (s : ByteArray) (hs : s.size ≤ 200) (w1 : World) (fp : List Nat) (a : Nat → Nat → Bool) (c0 c1 c2 c3 c4 c5 c6 c7 : Value) (hc5 : ∃ x l c, c5 = .slice x l c) (hc7 : ∃ x l c, c7 = .slice x l c) (hk : ∃ k, c0 = .int .i64 k) (hw : ∃ p0 p1 p2 p3 : Nat, c1 = .int .u64 p0 ∧ c2 = .int .u64 p1 ∧ c3 = .int .u64 p2 ∧ c4 = .int .u64 p3) (hq : ∃ q : Nat, c6 = .int .i64 q)
    (hends : Rm.Ends w0 E gm gs s w1 fp #[c0, c1, c2, c3, c4, c5, c6, c7] fun i => Cs.of (a i)) (S : List Nat) (hS : Dm.Ok4 S) (hSn : ∀ x, x < 256 → Dm.mem S x = true → x ≤ s.size) (μ : List Asrt) (W : World) (hst : St w0 W (Rm.base E gm gs s w1 fp μ)) :
    Calls Tryd.prog 60 #[.pointer (some ⟨gs, 0, none⟩), Cs.clV S, .agg #[c0, c1, c2, c3, c4, c5, c6, c7]] W fun e w' => e = .returned (Cs.clV (Rm.each s.size a S)) ∧ St w0 w' (Rm.base E gm gs s w1 fp μ) := by
  obtain ⟨x5, l5, n5, rfl⟩ := hc5
  obtain ⟨x7, l7, n7, rfl⟩ := hc7
  obtain ⟨k, rfl⟩ := hk
  obtain ⟨p0, p1, p2, p3, rfl, rfl, rfl, rfl⟩ := hw
  obtain ⟨q, rfl⟩ := hq
  have HALL := Lib.hid (Rm.eachL_all s.size hs a S hSn)
  have htx := Rct.txt_of (Dm.mem S)
  obtain ⟨a0, a1, a2, a3, rfl⟩ := Cs.okFour hS
  have HB := Lib.hid (fun W (h : Below w0.heap.size w0 W) => clBytes_any [a0, a1, a2, a3] hS W (fun j hj => bkeep h (hT j hj)))
  rw [Cs.bytes_all, show (List.range 256).filter (Dm.mem [a0, a1, a2, a3]) = Rct.lst (Dm.mem [a0, a1, a2, a3]) from rfl] at HB
  obtain ⟨TS, hTS⟩ : ∃ S, strOfNums ((Rct.lst (Dm.mem [a0, a1, a2, a3])).map Cs.bI) = S := ⟨_, rfl⟩
  rw [hTS] at HB htx
  clear hTS
  rw [show Cs.clV [a0, a1, a2, a3] = .agg #[.int .u64 a0, .int .u64 a1, .int .u64 a2, .int .u64 a3] from rfl] at HB ⊢
  have hst2 := (((hst.alloc #[.int .u64 a0, .int .u64 a1, .int .u64 a2, .int .u64 a3] 24).alloc #[.int .i64 k, .int .u64 p0, .int .u64 p1, .int .u64 p2, .int .u64 p3, .slice x5 l5 n5, .int .i64 q, .slice x7 l7 n7] 64).alloc #[.int .u64 0, .int .u64 0, .int .u64 0, .int .u64 0] 24).alloc #[.int .u64 0, .int .u64 0, .int .u64 0, .int .u64 0] 24
  simp only [World.size_alloc] at hst2
  have HST := Lib.hid hst2
  have HTX := Lib.hid htx
  have HEN := Lib.hid hends
  have HSN := Lib.hid hSn
  have htl := Rct.lst_len (p := Dm.mem [a0, a1, a2, a3])
  have HSZ := Lib.hid htx.size
  have hts : TS.size ≤ 256 := by rw [htx.size]; exact Rct.lst_len
  clear hst hst2 hT htx hends hSn hS
  go_enter Tryd.func60, Tryd.ntmps60
  go_wp2_with (fail)
  go_at_call 90
  refine (HB.out _ HST.out.bel).mono ?_
  rintro e w5 ⟨rfl, hb5⟩
  have HST := Lib.hid (HST.out.call hb5)
  clear hb5 HB
  have hcv := fun W => Lib.run_convert_string_bytes (P := Tryd.prog) W 9 80 5 TS (u := .string) Tryd.underlying9 Tryd.underlying80 Tryd.underlying5
  have HST := Lib.hid (HST.out.byts 5 TS)
  go_wp2_with (fail)
  clear hcv
  generalize Lib.bytesWorld w5 5 TS = w6 at *
  generalize hcap : grownCap w5 TS.size 0 5 = cap at *
  clear hcap
  generalize w5.heap.size = gb at *
  go_loopg [14] TS.size (fun gz v14 wr => ∃ j : Nat, j ≤ TS.size ∧ gz = TS.size - j ∧ v14 = .int .i64 j ∧ St w0 wr (aCel (W.heap.size + 1 + 1 + 1) 24 (Cs.clA (Rm.eachL s.size a ((Rct.lst (Dm.mem [a0, a1, a2, a3])).take j))) :: aByts gb TS :: aCel (W.heap.size + 1 + 1) 24 #[.int .u64 0, .int .u64 0, .int .u64 0, .int .u64 0] :: aCel (W.heap.size + 1) 64 #[.int .i64 k, .int .u64 p0, .int .u64 p1, .int .u64 p2, .int .u64 p3, .slice x5 l5 n5, .int .i64 q, .slice x7 l7 n7] :: aCel W.heap.size 24 #[.int .u64 a0, .int .u64 a1, .int .u64 a2, .int .u64 a3] :: Rm.base E gm gs s w1 fp μ))
  case atStart => exact ⟨0, by omega, by omega, rfl, by rw [List.take_zero, Rm.eachL_nil]; exact HST.out.get2⟩
  case round =>
    clear HST
    obtain ⟨j, hj, hgz, rfl, hst⟩ := hrel
    have HGZ := Lib.hid hgz
    clear hgz
    by_cases hlt : j < TS.size
    · have hltI : (j : Int) < TS.size := by omega
      have hjl : j < (Rct.lst (Dm.mem [a0, a1, a2, a3])).length := by rw [← HSZ.out]; exact hlt
      have hin := Rct.nth_in hjl
      have hxs := HSN.out _ hin.1 hin.2
      have hgx := HTX.out.get j hlt
      have hbx : (((TS.data.toList.getD j 0).toNat : Nat) : Int) = ((Rct.nth (Dm.mem [a0, a1, a2, a3]) j : Nat) : Int) := by
        rw [← hgx]
        have hjd : j < TS.data.size := hlt
        congr 2
        simp [List.getD, ByteArray.getElem_eq_getElem_data, Array.getElem?_eq_getElem hjd]
      have hb := ((hst.nth 1 rfl).ok _ (.head _)) j hlt
      rw [hbx] at hb
      have htk : (Rct.lst (Dm.mem [a0, a1, a2, a3])).take (j + 1) = (Rct.lst (Dm.mem [a0, a1, a2, a3])).take j ++ [Rct.nth (Dm.mem [a0, a1, a2, a3]) j] := by
        rw [List.take_add_one, List.getElem?_eq_getElem hjl]
        unfold Rct.nth
        simp [List.getD, List.getElem?_eq_getElem hjl]
      have hsn := Rm.eachL_snoc s.size a ((Rct.lst (Dm.mem [a0, a1, a2, a3])).take j) (Rct.nth (Dm.mem [a0, a1, a2, a3]) j)
      rw [← htk] at hsn
      have HH := Lib.hid (fun W' h => HEN.out (Rct.nth (Dm.mem [a0, a1, a2, a3]) j) (aCel (W.heap.size + 1 + 1 + 1) 24 (Cs.clA (Rm.eachL s.size a ((Rct.lst (Dm.mem [a0, a1, a2, a3])).take j))) :: aByts gb TS :: aCel (W.heap.size + 1 + 1) 24 #[.int .u64 0, .int .u64 0, .int .u64 0, .int .u64 0] :: aCel (W.heap.size + 1) 64 #[.int .i64 k, .int .u64 p0, .int .u64 p1, .int .u64 p2, .int .u64 p3, .slice x5 l5 n5, .int .i64 q, .slice x7 l7 n7] :: aCel W.heap.size 24 #[.int .u64 a0, .int .u64 a1, .int .u64 a2, .int .u64 a3] :: μ) W' hxs h)
      obtain ⟨x, hx⟩ : ∃ x, Rct.nth (Dm.mem [a0, a1, a2, a3]) j = x := ⟨_, rfl⟩
      rw [hx] at hsn hb hxs hin HH
      obtain ⟨r0, r1, r2, r3, hr⟩ := Cs.okFour (Cs.ok_of (a x))
      obtain ⟨o0, o1, o2, o3, ho⟩ := Cs.okFour (show Dm.Ok4 (Rm.eachL s.size a ((Rct.lst (Dm.mem [a0, a1, a2, a3])).take j)) from Cs.ok_of _)
      obtain ⟨u0, u1, u2, u3, hu⟩ := Cs.okFour (show Dm.Ok4 (Rm.eachL s.size a ((Rct.lst (Dm.mem [a0, a1, a2, a3])).take (j + 1))) from Cs.ok_of _)
      have HU := Lib.hid hu
      have hrok : Dm.Ok4 [r0, r1, r2, r3] := hr ▸ Cs.ok_of _
      have hook : Dm.Ok4 [o0, o1, o2, o3] := ho ▸ Cs.ok_of _
      rw [hu, ho, hr] at hsn
      have HJ := Lib.hid (fun W => clJoin_any [o0, o1, o2, o3] [r0, r1, r2, r3] hook hrok W)
      rw [← hsn, show Cs.clV [u0, u1, u2, u3] = .agg #[.int .u64 u0, .int .u64 u1, .int .u64 u2, .int .u64 u3] from rfl, show Cs.clV [o0, o1, o2, o3] = .agg #[.int .u64 o0, .int .u64 o1, .int .u64 o2, .int .u64 o3] from rfl, show Cs.clV [r0, r1, r2, r3] = .agg #[.int .u64 r0, .int .u64 r1, .int .u64 r2, .int .u64 r3] from rfl] at HJ
      rw [ho, show Cs.clA [o0, o1, o2, o3] = #[.int .u64 o0, .int .u64 o1, .int .u64 o2, .int .u64 o3] from rfl] at hst HH
      simp only at HH
      rw [hr, show Cs.clV [r0, r1, r2, r3] = .agg #[.int .u64 r0, .int .u64 r1, .int .u64 r2, .int .u64 r3] from rfl] at HH
      have HST := Lib.hid (hst.pick [5, 6, 7, 0, 1, 2, 3, 4] 8 rfl rfl).drew
      have hx256 := hin.1
      have hxw : IntKind.i64.wrap (x : Int) = (x : Int) := IntWalk.i64_in _ (by omega)
      clear hst hsn hr ho hu hrok hook htk hbx hgx hjl hin hx
      obtain ⟨y0, y1, y2, y3, y4, y5, y6, y7⟩ := Nm.cel8 HST.out 6 rfl
      obtain ⟨t0, t1, t2, t3⟩ := (show _ ∧ _ ∧ _ ∧ _ from ⟨(HST.out.nth 3 rfl).celAt (i := 0) rfl, (HST.out.nth 3 rfl).celAt (i := 1) rfl, (HST.out.nth 3 rfl).celAt (i := 2) rfl, (HST.out.nth 3 rfl).celAt (i := 3) rfl⟩)
      go_wp2_with (fail)
      refine wp_region_held_drew (S := (fun w' => w'.cell? ⟨W.heap.size + 1, 0, none⟩ = some (.int .i64 k) ∧ w'.cell? ⟨W.heap.size + 1, 1, none⟩ = some (.int .u64 p0) ∧ w'.cell? ⟨W.heap.size + 1, 2, none⟩ = some (.int .u64 p1) ∧ w'.cell? ⟨W.heap.size + 1, 3, none⟩ = some (.int .u64 p2) ∧ w'.cell? ⟨W.heap.size + 1, 4, none⟩ = some (.int .u64 p3) ∧ w'.cell? ⟨W.heap.size + 1, 5, none⟩ = some (.slice x5 l5 n5) ∧ w'.cell? ⟨W.heap.size + 1, 6, none⟩ = some (.int .i64 q) ∧ w'.cell? ⟨W.heap.size + 1, 7, none⟩ = some (.slice x7 l7 n7))) (by kernel_rfl) ?_ (fun hHeld => ?_)
      · (try dsimp only); (first | exact ⟨y0, y1, y2, y3, y4, y5, y6, y7⟩ | exact ⟨y0b, y1b, y2b, y3b, y4b, y5b, y6b, y7b⟩ | exact ⟨y0c, y1c, y2c, y3c, y4c, y5c, y6c, y7c⟩ | exact ⟨y0d, y1d, y2d, y3d, y4d, y5d, y6d, y7d⟩)

      refine wpAnyH_take (i := 1) (v := ?_) rfl (by kernel_rfl) (by kernel_rfl) (by kernel_rfl) (fun _ _ _ h => h) (Or.inl ⟨by rfl, ?_⟩) (by assumption) ?_
      rotate_left; focus (intro w hSw; (try dsimp only at hSw); go_simp; try (with_reducible rfl); done)
      try simp only [List.getElem_toArray, List.getElem_cons_zero, List.getElem_cons_succ, Act.put, List.setIfInBounds_toArray, List.set_cons_zero, List.set_cons_succ]
      refine wpAnyH_take (i := 2) (v := ?_) rfl (by kernel_rfl) (by kernel_rfl) (by kernel_rfl) (fun _ _ _ h => h) (Or.inl ⟨by rfl, ?_⟩) (by assumption) ?_
      rotate_left; focus (intro w hSw; (try dsimp only at hSw); go_simp; try (with_reducible rfl); done)
      try simp only [List.getElem_toArray, List.getElem_cons_zero, List.getElem_cons_succ, Act.put, List.setIfInBounds_toArray, List.set_cons_zero, List.set_cons_succ]
      refine wpAnyH_take (i := 3) (v := ?_) rfl (by kernel_rfl) (by kernel_rfl) (by kernel_rfl) (fun _ _ _ h => h) (Or.inl ⟨by rfl, ?_⟩) (by assumption) ?_
      rotate_left; focus (intro w hSw; (try dsimp only at hSw); go_simp; try (with_reducible rfl); done)
      try simp only [List.getElem_toArray, List.getElem_cons_zero, List.getElem_cons_succ, Act.put, List.setIfInBounds_toArray, List.set_cons_zero, List.set_cons_succ]
      refine wpAnyH_take (i := 4) (v := ?_) rfl (by kernel_rfl) (by kernel_rfl) (by kernel_rfl) (fun _ _ _ h => h) (Or.inl ⟨by rfl, ?_⟩) (by assumption) ?_
      rotate_left; focus (intro w hSw; (try dsimp only at hSw); go_simp; try (with_reducible rfl); done)
      try simp only [List.getElem_toArray, List.getElem_cons_zero, List.getElem_cons_succ, Act.put, List.setIfInBounds_toArray, List.set_cons_zero, List.set_cons_succ]
      refine wpAnyH_ready (rs := [0, 5]) (by kernel_rfl) (by simp) ?_
      refine AllReadyH.cons rfl (fun K hK => ?_) (AllReadyH.cons rfl (fun K hK => ?_) (AllReadyH.nil))
      · skip
        go_simp
        refine hK.out _ _ ?_ (fun hHeld => ?_)
        · (try dsimp only); (first | exact ⟨y0, y1, y2, y3, y4, y5, y6, y7⟩ | exact ⟨y0b, y1b, y2b, y3b, y4b, y5b, y6b, y7b⟩ | exact ⟨y0c, y1c, y2c, y3c, y4c, y5c, y6c, y7c⟩ | exact ⟨y0d, y1d, y2d, y3d, y4d, y5d, y6d, y7d⟩)
        clear hK K
        try simp only [List.getElem_toArray, List.getElem_cons_zero, List.getElem_cons_succ, Act.put, List.setIfInBounds_toArray, List.set_cons_zero, List.set_cons_succ]
        refine wpAnyH_ready (rs := [5]) (by kernel_rfl) (by simp) ?_
        refine AllReadyH.cons rfl (fun K hK => ?_) (AllReadyH.nil)
        go_simp
        (go_at_call 25; refine (HH.out _ HST.out).mono ?_; rintro e w8 ⟨rfl, hst8⟩; obtain ⟨y0b, y1b, y2b, y3b, y4b, y5b, y6b, y7b⟩ := Nm.cel8 hst8 6 rfl; obtain ⟨t0b, t1b, t2b, t3b⟩ := (show _ ∧ _ ∧ _ ∧ _ from ⟨(hst8.nth 3 rfl).celAt (i := 0) rfl, (hst8.nth 3 rfl).celAt (i := 1) rfl, (hst8.nth 3 rfl).celAt (i := 2) rfl, (hst8.nth 3 rfl).celAt (i := 3) rfl⟩); have HST8 := Lib.hid hst8; clear hst8)
        refine hK.out _ _ ?_ (fun hHeld => ?_)
        · (try dsimp only); (first | exact ⟨y0, y1, y2, y3, y4, y5, y6, y7⟩ | exact ⟨y0b, y1b, y2b, y3b, y4b, y5b, y6b, y7b⟩ | exact ⟨y0c, y1c, y2c, y3c, y4c, y5c, y6c, y7c⟩ | exact ⟨y0d, y1d, y2d, y3d, y4d, y5d, y6d, y7d⟩)
        clear hK K
        try simp only [List.getElem_toArray, List.getElem_cons_zero, List.getElem_cons_succ, Act.put, List.setIfInBounds_toArray, List.set_cons_zero, List.set_cons_succ]
        refine wpAnyH_ready (rs := [6]) (by kernel_rfl) (by simp) ?_
        refine AllReadyH.cons rfl (fun K hK => ?_) AllReadyH.nil
        go_simp
        (go_at_call 59; refine (HJ.out _).mono ?_; rintro e w9 ⟨rfl, hb9⟩; have HST9 := Lib.hid (HST8.out.call hb9); obtain ⟨y0c, y1c, y2c, y3c, y4c, y5c, y6c, y7c⟩ := Nm.cel8 HST9.out 6 rfl; clear hb9)
        refine hK.out _ _ ?_ (fun hHeld => ?_)
        · (try dsimp only); (first | exact ⟨y0, y1, y2, y3, y4, y5, y6, y7⟩ | exact ⟨y0b, y1b, y2b, y3b, y4b, y5b, y6b, y7b⟩ | exact ⟨y0c, y1c, y2c, y3c, y4c, y5c, y6c, y7c⟩ | exact ⟨y0d, y1d, y2d, y3d, y4d, y5d, y6d, y7d⟩)
        clear hK K
        try simp only [List.getElem_toArray, List.getElem_cons_zero, List.getElem_cons_succ, Act.put, List.setIfInBounds_toArray, List.set_cons_zero, List.set_cons_succ]
        refine wpAnyH_ready (rs := [7]) (by kernel_rfl) (by simp) ?_
        refine AllReadyH.cons rfl (fun K hK => ?_) AllReadyH.nil
        (refine St.stepRow rfl 24 (.tmp 7) (.tmp 24) rfl (W.heap.size + 1 + 1 + 1) #[.int .u64 u0, .int .u64 u1, .int .u64 u2, .int .u64 u3] rfl rfl (HST9.out.pick [3, 4, 5, 6, 7, 0, 1, 2] 8 rfl rfl) Cs.clInfo rfl (by simp [Value.oneCell']) ?_; intro w10 hst10; obtain ⟨y0d, y1d, y2d, y3d, y4d, y5d, y6d, y7d⟩ := Nm.cel8 hst10 3 rfl; have HSTX := Lib.hid hst10; clear hst10)
        refine hK.out _ _ ?_ (fun hHeld => ?_)
        · (try dsimp only); (first | exact ⟨y0, y1, y2, y3, y4, y5, y6, y7⟩ | exact ⟨y0b, y1b, y2b, y3b, y4b, y5b, y6b, y7b⟩ | exact ⟨y0c, y1c, y2c, y3c, y4c, y5c, y6c, y7c⟩ | exact ⟨y0d, y1d, y2d, y3d, y4d, y5d, y6d, y7d⟩)
        clear hK K
        try simp only [List.getElem_toArray, List.getElem_cons_zero, List.getElem_cons_succ, Act.put, List.setIfInBounds_toArray, List.set_cons_zero, List.set_cons_succ]
        refine wpAnyH_done (by kernel_rfl) ?_ _
        go_wp2
        go_roundg (TS.size - (j + 1))
        case measure => have := HGZ.out; omega
        case rel => exact ⟨j + 1, by omega, rfl, by go_num, by rw [HU.out]; exact HSTX.out⟩
      · skip
        go_simp
        (go_at_call 25; refine (HH.out _ HST.out).mono ?_; rintro e w8 ⟨rfl, hst8⟩; obtain ⟨y0b, y1b, y2b, y3b, y4b, y5b, y6b, y7b⟩ := Nm.cel8 hst8 6 rfl; obtain ⟨t0b, t1b, t2b, t3b⟩ := (show _ ∧ _ ∧ _ ∧ _ from ⟨(hst8.nth 3 rfl).celAt (i := 0) rfl, (hst8.nth 3 rfl).celAt (i := 1) rfl, (hst8.nth 3 rfl).celAt (i := 2) rfl, (hst8.nth 3 rfl).celAt (i := 3) rfl⟩); have HST8 := Lib.hid hst8; clear hst8)
        refine hK.out _ _ ?_ (fun hHeld => ?_)
        · (try dsimp only); (first | exact ⟨y0, y1, y2, y3, y4, y5, y6, y7⟩ | exact ⟨y0b, y1b, y2b, y3b, y4b, y5b, y6b, y7b⟩ | exact ⟨y0c, y1c, y2c, y3c, y4c, y5c, y6c, y7c⟩ | exact ⟨y0d, y1d, y2d, y3d, y4d, y5d, y6d, y7d⟩)
        clear hK K
        try simp only [List.getElem_toArray, List.getElem_cons_zero, List.getElem_cons_succ, Act.put, List.setIfInBounds_toArray, List.set_cons_zero, List.set_cons_succ]
        refine wpAnyH_ready (rs := [0]) (by kernel_rfl) (by simp) ?_
        refine AllReadyH.cons rfl (fun K hK => ?_) (AllReadyH.nil)
        go_simp
        refine hK.out _ _ ?_ (fun hHeld => ?_)
        · (try dsimp only); (first | exact ⟨y0, y1, y2, y3, y4, y5, y6, y7⟩ | exact ⟨y0b, y1b, y2b, y3b, y4b, y5b, y6b, y7b⟩ | exact ⟨y0c, y1c, y2c, y3c, y4c, y5c, y6c, y7c⟩ | exact ⟨y0d, y1d, y2d, y3d, y4d, y5d, y6d, y7d⟩)
        clear hK K
        try simp only [List.getElem_toArray, List.getElem_cons_zero, List.getElem_cons_succ, Act.put, List.setIfInBounds_toArray, List.set_cons_zero, List.set_cons_succ]
        refine wpAnyH_ready (rs := [6]) (by kernel_rfl) (by simp) ?_
        refine AllReadyH.cons rfl (fun K hK => ?_) AllReadyH.nil
        go_simp
        (go_at_call 59; refine (HJ.out _).mono ?_; rintro e w9 ⟨rfl, hb9⟩; have HST9 := Lib.hid (HST8.out.call hb9); obtain ⟨y0c, y1c, y2c, y3c, y4c, y5c, y6c, y7c⟩ := Nm.cel8 HST9.out 6 rfl; clear hb9)
        refine hK.out _ _ ?_ (fun hHeld => ?_)
        · (try dsimp only); (first | exact ⟨y0, y1, y2, y3, y4, y5, y6, y7⟩ | exact ⟨y0b, y1b, y2b, y3b, y4b, y5b, y6b, y7b⟩ | exact ⟨y0c, y1c, y2c, y3c, y4c, y5c, y6c, y7c⟩ | exact ⟨y0d, y1d, y2d, y3d, y4d, y5d, y6d, y7d⟩)
        clear hK K
        try simp only [List.getElem_toArray, List.getElem_cons_zero, List.getElem_cons_succ, Act.put, List.setIfInBounds_toArray, List.set_cons_zero, List.set_cons_succ]
        refine wpAnyH_ready (rs := [7]) (by kernel_rfl) (by simp) ?_
        refine AllReadyH.cons rfl (fun K hK => ?_) AllReadyH.nil
        (refine St.stepRow rfl 24 (.tmp 7) (.tmp 24) rfl (W.heap.size + 1 + 1 + 1) #[.int .u64 u0, .int .u64 u1, .int .u64 u2, .int .u64 u3] rfl rfl (HST9.out.pick [3, 4, 5, 6, 7, 0, 1, 2] 8 rfl rfl) Cs.clInfo rfl (by simp [Value.oneCell']) ?_; intro w10 hst10; obtain ⟨y0d, y1d, y2d, y3d, y4d, y5d, y6d, y7d⟩ := Nm.cel8 hst10 3 rfl; have HSTX := Lib.hid hst10; clear hst10)
        refine hK.out _ _ ?_ (fun hHeld => ?_)
        · (try dsimp only); (first | exact ⟨y0, y1, y2, y3, y4, y5, y6, y7⟩ | exact ⟨y0b, y1b, y2b, y3b, y4b, y5b, y6b, y7b⟩ | exact ⟨y0c, y1c, y2c, y3c, y4c, y5c, y6c, y7c⟩ | exact ⟨y0d, y1d, y2d, y3d, y4d, y5d, y6d, y7d⟩)
        clear hK K
        try simp only [List.getElem_toArray, List.getElem_cons_zero, List.getElem_cons_succ, Act.put, List.setIfInBounds_toArray, List.set_cons_zero, List.set_cons_succ]
        refine wpAnyH_done (by kernel_rfl) ?_ _
        go_wp2
        go_roundg (TS.size - (j + 1))
        case measure => have := HGZ.out; omega
        case rel => exact ⟨j + 1, by omega, rfl, by go_num, by rw [HU.out]; exact HSTX.out⟩
    · have hge : ¬ ((j : Int) < TS.size) := by omega
      have hje : j = (Rct.lst (Dm.mem [a0, a1, a2, a3])).length := by rw [← HSZ.out]; omega
      rw [hje, List.take_length, HALL.out] at hst
      obtain ⟨u0, u1, u2, u3, hu⟩ := Cs.okFour (show Dm.Ok4 (Rm.each s.size a [a0, a1, a2, a3]) from Cs.ok_of _)
      have HU := Lib.hid hu
      rw [hu, show Cs.clA [u0, u1, u2, u3] = #[.int .u64 u0, .int .u64 u1, .int .u64 u2, .int .u64 u3] from rfl] at hst
      have HST := Lib.hid (hst.pick (ρ := aCel (W.heap.size + 1 + 1) 24 #[.int .u64 0, .int .u64 0, .int .u64 0, .int .u64 0] :: aCel (W.heap.size + 1 + 1 + 1) 24 #[.int .u64 u0, .int .u64 u1, .int .u64 u2, .int .u64 u3] :: Rm.base E gm gs s w1 fp μ) [2, 0, 5, 6, 7] 8 rfl rfl)
      clear hst hje hu
      obtain ⟨t0, t1, t2, t3⟩ := (show _ ∧ _ ∧ _ ∧ _ from ⟨(HST.out.nth 1 rfl).celAt (i := 0) rfl, (HST.out.nth 1 rfl).celAt (i := 1) rfl, (HST.out.nth 1 rfl).celAt (i := 2) rfl, (HST.out.nth 1 rfl).celAt (i := 3) rfl⟩)
      go_wp2_with (refine St.rowOp rfl 24 (.tmp 6) (.tmp 26) rfl (W.heap.size + 1 + 1) #[.int .u64 u0, .int .u64 u1, .int .u64 u2, .int .u64 u3] rfl rfl HST.out Cs.clInfo rfl (by simp [Value.oneCell']) ?_; intro w9 hst9; have HST9 := Lib.hid hst9; clear hst9 HST)
      refine bodyPost_ret (results_row rfl _ _ (W.heap.size + 1 + 1) 24 _ _ rfl (HST9.out.heapAt 0 rfl) Tryd.underlying24 rfl Cs.clInfo) rfl ?_
      exact ⟨by rw [HU.out]; rfl, HST9.out.drop.drop⟩
end Go.Proofs.YtfelikfppjlcmaaDoor

/-
  Which set stands for which node's number. (Plain functions; nothing of the program is claimed.)
-/
namespace Go.Proofs.YtfelikfppjlcmaaDoor
set_option linter.unusedVariables false

namespace Rm
/-- The node of number q in a list of kids, the first one's number being b. -/
def lkK (g : Rx → Nat → Nat → Nat × Rx) (c : Rx → Nat) : List Rx → Nat → Nat → Nat × Rx
  | [], _, _ => (0, Rx.nil)
  | k :: ks, b, q => if q < b + c k then g k b q else lkK g c ks (b + c k) q
/-- The node of number q in t, whose number is b. -/
def lk : Nat → Rx → Nat → Nat → Nat × Rx
  | 0, t, _, _ => (0, t)
  | f + 1, t, b, q => if q = b then (f + 1, t) else lkK (lk f) (Rx.cnt f) t.kids (b + 1) q
def setOf (n : Nat) (B : Nat → Nat) (p : Nat × Rx) (i : Nat) : List Nat := en n B p.1 p.2 i
def Fits (n : Nat) (B : Nat → Nat) (E : Nat → Nat → List Nat) : Nat → Rx → Nat → Prop
  | 0, _, _ => True
  | f + 1, t, b => (∀ i, E b i = en n B (f + 1) t i) ∧ ∀ j, j < t.kids.length → Fits n B E f (t.kids.getD j Rx.nil) (b + 1 + Nm.sumK f (t.kids.take j))
theorem lkK_at (g : Rx → Nat → Nat → Nat × Rx) (f : Nat) : ∀ (ks : List Rx) (b j q : Nat), j < ks.length → b + Nm.sumK f (ks.take j) ≤ q → q < b + Nm.sumK f (ks.take j) + Rx.cnt f (ks.getD j Rx.nil) → lkK g (Rx.cnt f) ks b q = g (ks.getD j Rx.nil) (b + Nm.sumK f (ks.take j)) q
  | [], b, j, q, h, _, _ => absurd h (by simp)
  | k :: ks, b, 0, q, _, h1, h2 => by
    simp only [List.take_zero, List.getD_cons_zero] at h1 h2 ⊢
    rw [lkK, if_pos (by simpa [Nm.sumK] using h2)]
    simp [Nm.sumK]
  | k :: ks, b, j + 1, q, h, h1, h2 => by
    have e : Nm.sumK f ((k :: ks).take (j + 1)) = Rx.cnt f k + Nm.sumK f (ks.take j) := by simp [Nm.sumK]
    rw [e] at h1 h2 ⊢
    rw [List.getD_cons_succ] at h2 ⊢
    rw [lkK, if_neg (by omega), lkK_at g f ks (b + Rx.cnt f k) j q (by simpa using h) (by omega) (by omega)]
    congr 1
    omega
theorem sum_at (f : Nat) (ks : List Rx) (j : Nat) (hj : j < ks.length) : Nm.sumK f (ks.take j) + Rx.cnt f (ks.getD j Rx.nil) ≤ Nm.sumK f ks := by
  have h := Nm.sumK_le f ks (j + 1)
  have e : Nm.sumK f (ks.take (j + 1)) = Nm.sumK f (ks.take j) + Rx.cnt f (ks.getD j Rx.nil) := by
    rw [List.take_add_one, List.getElem?_eq_getElem hj, show ks.getD j Rx.nil = ks[j] by simp [List.getD, List.getElem?_eq_getElem hj]]
    exact Nm.sumK_snoc f _ _
  omega
theorem fits_of {n : Nat} {B : Nat → Nat} {E : Nat → Nat → List Nat} : ∀ (f : Nat) (t : Rx) (b : Nat), (∀ q, b ≤ q → q < b + Rx.cnt f t → ∀ i, E q i = setOf n B (lk f t b q) i) → Fits n B E f t b := by
  intro f
  induction f with
  | zero => intro t b _; trivial
  | succ f ih =>
    intro t b h
    refine ⟨fun i => ?_, fun j hj => ih _ _ fun q h1 h2 i => ?_⟩
    · rw [h b (Nat.le_refl _) (by have := Rx.cnt_pos (f + 1) t; omega) i]
      unfold setOf
      rw [lk, if_pos rfl]
    · have hs := sum_at f t.kids j hj
      rw [h q (by omega) (by rw [Nm.cnt_kids]; omega) i]
      unfold setOf
      rw [lk, if_neg (by omega), lkK_at (lk f) f t.kids (b + 1) j q hj h1 h2]
/-- The sets of a tree's nodes, by number. -/
def sets (n : Nat) (B : Nat → Nat) (f : Nat) (t : Rx) (b : Nat) (q i : Nat) : List Nat := setOf n B (lk f t b q) i
theorem sets_fit (n : Nat) (B : Nat → Nat) (f : Nat) (t : Rx) (b : Nat) : Fits n B (sets n B f t b) f t b := fits_of f t b fun q _ _ i => rfl
theorem sets_ok (n : Nat) (B : Nat → Nat) (f : Nat) (t : Rx) (b q i : Nat) : Dm.Ok4 (sets n B f t b q i) := en_ok _ _ _
end Rm
end Go.Proofs.YtfelikfppjlcmaaDoor
