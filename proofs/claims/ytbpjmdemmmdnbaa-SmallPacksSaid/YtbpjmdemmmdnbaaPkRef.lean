/-
  Packed of the reference: what it computes.
-/
import Derived.Test.YtbpjmdemmmdnbaaPkM
import Derived.Test.YtbpjmdemmmdnbaaPkPack
import Derived.Deep.CutBlock
import Derived.Deep.DeepCutAuto
namespace Go.Proofs.Ytbpjmdemmmdnbaa
set_option linter.unusedVariables false
set_option linter.unusedSimpArgs false
open Go.ChangeShapes Go.WideShapes Go.ChangeAt Go.RowKit

def Pk.fV (n : Nat) : Value := .int .i64 (n : Int)
def RetPr (rows : List (List Int)) (vt : Value) (w : World) (e : Ending) (w' : World) : Prop := ∃ (gn : Nat) (q : List (Ll.SV × List Int)), e = .returned (.agg (Pk.outA (Pk.ofP rows 256) (.slice (some ⟨gn, 0, none⟩) rows.length rows.length) vt)) ∧ Hid (q.map Prod.snd = Pk.nx rows (Pk.run rows 256).1) ∧
  St w w' [aOwn 23 1 (.slice (some ⟨gn, 0, none⟩) rows.length rows.length) ((q.map Prod.fst).map Ll.slV), aAll (q.map Pk.aRow)]
abbrev Pk.baseR (S gO gn b off cap : Nat) (vt vf : Value) (nr : Nat) (of : List Int) (q : List (Ll.SV × List Int)) (fs : List Nat) : List Asrt :=
  [aCel gO 36 (Pk.outA of (.slice (some ⟨gn, 0, none⟩) nr nr) vt), aOwn 3 1 vf (fs.map Pk.fV), aOwn 23 1 (.slice (some ⟨gn, 0, none⟩) nr nr) ((q.map Prod.fst).map Ll.slV), aAll (q.map Pk.aRow), aCel (S + 1) 36 Try.zeroCells36, aCel S 25 #[.slice (some ⟨b, off, none⟩) nr cap, vt]]
theorem Pk.rowsNil {w0 w : World} {μ : List Asrt} (n : Nat) (h : St w0 w μ) : St w0 w (aAll ((List.replicate n (((none, 0, 0), []) : Ll.SV × List Int)).map Pk.aRow) :: μ) :=
  h.push (Below.refl _ _) (fun A hA => by
    rw [List.map_replicate] at hA
    rw [List.eq_of_mem_replicate hA]
    exact Own.nil _ _ _ _) (fun x hx => by
    simp only [aAll, List.mem_flatMap] at hx
    obtain ⟨A, hA, hx⟩ := hx
    rw [List.map_replicate] at hA
    rw [List.eq_of_mem_replicate hA] at hx
    cases hx) (by
    have : (aAll ((List.replicate n (((none, 0, 0), []) : Ll.SV × List Int)).map Pk.aRow)).fp = [] := by
      simp only [aAll, List.map_replicate]
      rw [List.flatMap_eq_nil_iff]
      intro A hA
      rw [List.eq_of_mem_replicate hA]
      rfl
    rw [this]; exact List.nodup_nil)
theorem Pk.shareR {P A : Nat → Nat → World → Prop} {G : Prop} (h1 : (∀ a b W, A a b W → P a b W) → G) (h2 : ∀ a b W, A a b W → P a b W) : G := h1 h2

set_option maxRecDepth 100000 in
set_option maxHeartbeats 4000000 in
theorem rpacked_ok (v : Value) (rows : List (List Int)) (tags : List Int) (w : World) (hd : DfaAt w v rows tags) (he : Aut.err rows tags = 0) (vr vt : Value) (hv : v = .agg #[vr, vt]) :
    Calls Try.prog 14 #[v] w (RetPr rows vt w) := by
  obtain ⟨v0, v1, hv2, hr, ht⟩ := hd
  rw [hv] at hv2
  simp only [Value.agg.injEq, Array.mk.injEq, List.cons.injEq, and_true] at hv2
  obtain ⟨rfl, rfl⟩ := hv2
  subst hv
  obtain ⟨h200, hpos, htl, hgood⟩ := Aut.err_good rows tags he
  obtain ⟨ao, b, off, cap, rfl, c1, c2, c3, c4, c5⟩ := slRows hr
  obtain ⟨at1, bt, ot, ct, rfl, -, -, -, -, -⟩ := slInts ht
  obtain ⟨rfl, hb⟩ := c3 hpos
  have C4 := Lib.hid c4; have C5 := Lib.hid c5; have HG := Lib.hid hgood; have HTL := Lib.hid htl
  have hnl : (rows.length : Int) ≤ 200 := by omega
  have hn0 : (0 : Int) < rows.length := by omega
  have hb0 := Lib.hid hb
  clear hr ht he c3 c4 c5 hgood c2 htl
  have hst := ((St.init w).alloc #[.slice (some ⟨b, off, none⟩) rows.length cap, .slice at1 tags.length ct] 25).alloc Try.zeroCells36 36
  simp only [World.size_alloc] at hst
  have HST := Lib.hid hst.drew
  clear hst
  generalize tags.length = nt at *
  go_enter Try.func14, Try.ntmps14
  go_wp2_with (fail)
  generalize hW1 : (w.alloc (.cells #[.slice (some ⟨b, off, none⟩) rows.length cap, .slice at1 nt ct] 25)).alloc (.cells Try.zeroCells36 36) = w1 at *
  have x0 := (HST.out.at2 1 rfl).1
  have x1 := (HST.out.at2 1 rfl).2
  clear hW1
  have HN := Lib.hid (St.init w1.drew)
  have HZ := Lib.hid (show (Try.zeroCells36).size = 258 by kernel_rfl)
  refine Pk.shareR (P := ?PSh) (A := fun gn gO W => St w W [aCel gO 36 (Pk.outA (List.replicate 256 0) (.slice (some ⟨gn, 0, none⟩) rows.length rows.length) (.slice at1 nt ct)), aOwn 23 1 (.slice (some ⟨gn, 0, none⟩) rows.length rows.length) (List.replicate rows.length (.slice none 0 0)), aCel (w.heap.size + 1) 36 Try.zeroCells36, aCel w.heap.size 25 #[.slice (some ⟨b, off, none⟩) rows.length cap, .slice at1 nt ct]]) (fun REST => ?h1) ?h2
  case h1 =>
    refine wp_region_held_drew (S := (fun w' => w'.cell? ⟨w.heap.size, 0, none⟩ = some (.slice (some ⟨b, off, none⟩) rows.length cap) ∧ w'.cell? ⟨w.heap.size, 1, none⟩ = some (.slice at1 nt ct))) (by kernel_rfl) ?_ (fun hHeld => ?_)
    · (try dsimp only); (exact ⟨bkeep HN.out.bel x0, bkeep HN.out.bel x1⟩)

    refine wpAnyH_take (i := 0) (v := ?_) rfl (by kernel_rfl) (by kernel_rfl) (by kernel_rfl) (fun _ _ _ h => h) (Or.inl ⟨by rfl, ?_⟩) (by assumption) ?_
    rotate_left; focus (intro w hSw; (try dsimp only at hSw); go_simp; try (with_reducible rfl); done)
    try simp only [List.getElem_toArray, List.getElem_cons_zero, List.getElem_cons_succ, Act.put, List.setIfInBounds_toArray, List.set_cons_zero, List.set_cons_succ]
    refine wpAnyH_take (i := 1) (v := ?_) rfl (by kernel_rfl) (by kernel_rfl) (by kernel_rfl) (fun _ _ _ h => h) (Or.inl ⟨by rfl, ?_⟩) (by assumption) ?_
    rotate_left; focus (intro w hSw; (try dsimp only at hSw); go_simp; try (with_reducible rfl); done)
    try simp only [List.getElem_toArray, List.getElem_cons_zero, List.getElem_cons_succ, Act.put, List.setIfInBounds_toArray, List.set_cons_zero, List.set_cons_succ]
    refine wpAnyH_take (i := 2) (v := ?_) rfl (by kernel_rfl) (by kernel_rfl) (by kernel_rfl) (fun _ _ _ h => h) (Or.inl ⟨by rfl, ?_⟩) (by assumption) ?_
    rotate_left; focus (intro w hSw; (try dsimp only at hSw); go_simp; try (with_reducible rfl); done)
    try simp only [List.getElem_toArray, List.getElem_cons_zero, List.getElem_cons_succ, Act.put, List.setIfInBounds_toArray, List.set_cons_zero, List.set_cons_succ]
    refine wpAnyH_take (i := 4) (v := ?_) rfl (by kernel_rfl) (by kernel_rfl) (by kernel_rfl) (fun _ _ _ h => h) (Or.inl ⟨by rfl, ?_⟩) (by assumption) ?_
    rotate_left; focus (intro w hSw; (try dsimp only at hSw); go_simp; try (with_reducible rfl); done)
    try simp only [List.getElem_toArray, List.getElem_cons_zero, List.getElem_cons_succ, Act.put, List.setIfInBounds_toArray, List.set_cons_zero, List.set_cons_succ]
    refine wpAnyH_take (i := 5) (v := ?_) rfl (by kernel_rfl) (by kernel_rfl) (by kernel_rfl) (fun _ _ _ h => h) (Or.inl ⟨by rfl, ?_⟩) (by assumption) ?_
    rotate_left; focus (intro w hSw; (try dsimp only at hSw); go_simp; try (with_reducible rfl); done)
    try simp only [List.getElem_toArray, List.getElem_cons_zero, List.getElem_cons_succ, Act.put, List.setIfInBounds_toArray, List.set_cons_zero, List.set_cons_succ]
    refine wpAnyH_ready (rs := [3, 7]) (by kernel_rfl) (by simp) ?_
    refine AllReadyH.cons rfl (fun K hK => ?_) (AllReadyH.cons rfl (fun K hK => ?_) (AllReadyH.nil))
    · skip
      (first | (refine St.stepMake rfl (.tmp 12) rfl Try.underlying34 (z := .slice none 0 0) (bytes := 24) (by kernel_rfl) rfl HN.out rows.length rfl (by omega) (by decide) ?_; intro gn w8 hst8; have HN := Lib.hid hst8; clear hst8) | ((first | (have HP := Lib.hid (HN.out.pick (ρ := [aCel gO 36 Try.zeroCells36, aOwn 23 1 (.slice (some ⟨gn, 0, none⟩) rows.length rows.length) (List.replicate rows.length (.slice none 0 0))]) [0, 1] 2 rfl rfl)) | (have HP := Lib.hid (HN.out.pick (ρ := [aCel gO 36 Try.zeroCells36, aOwn 23 1 (.slice (some ⟨gn, 0, none⟩) rows.length rows.length) (List.replicate rows.length (.slice none 0 0))]) [1, 0] 2 rfl rfl))); refine St.stepRow rfl 36 (.tmp 3) (.tmp 16) rfl gO (Pk.outA (List.replicate 256 0) (.slice (some ⟨gn, 0, none⟩) rows.length rows.length) (.slice at1 nt ct)) rfl (congrArg Value.agg (Pk.outA_mk _ _)) HP.out (by rw [Pk.outA_size (by simp)]; exact pkInfo) (by rw [Pk.outA_size (by simp), HZ.out]) (Pk.outA_one _ _ _ rfl rfl) ?_; intro w8 hst8; have HN := Lib.hid hst8; clear hst8 HP) | (refine St.stepNew (T := 36) (cs := Try.zeroCells36) rfl (by intro u; kernel_rfl) HN.out ?_; intro gO w8 hst8; have HN := Lib.hid hst8; clear hst8))
      refine hK.out _ _ ?_ (fun hHeld => ?_)
      · (try dsimp only); (exact ⟨bkeep HN.out.bel x0, bkeep HN.out.bel x1⟩)
      clear hK K
      try simp only [List.getElem_toArray, List.getElem_cons_zero, List.getElem_cons_succ, Act.put, List.setIfInBounds_toArray, List.set_cons_zero, List.set_cons_succ]
      refine wpAnyH_take (i := 6) (v := ?_) rfl (by kernel_rfl) (by kernel_rfl) (by kernel_rfl) (fun _ _ _ h => h) (Or.inl ⟨by rfl, ?_⟩) (by assumption) ?_
      rotate_left; focus (intro w hSw; (try dsimp only at hSw); go_simp; try (with_reducible rfl); done)
      try simp only [List.getElem_toArray, List.getElem_cons_zero, List.getElem_cons_succ, Act.put, List.setIfInBounds_toArray, List.set_cons_zero, List.set_cons_succ]
      refine wpAnyH_ready (rs := [7]) (by kernel_rfl) (by simp) ?_
      refine AllReadyH.cons rfl (fun K hK => ?_) (AllReadyH.nil)
      (first | (refine St.stepMake rfl (.tmp 12) rfl Try.underlying34 (z := .slice none 0 0) (bytes := 24) (by kernel_rfl) rfl HN.out rows.length rfl (by omega) (by decide) ?_; intro gn w8 hst8; have HN := Lib.hid hst8; clear hst8) | ((first | (have HP := Lib.hid (HN.out.pick (ρ := [aCel gO 36 Try.zeroCells36, aOwn 23 1 (.slice (some ⟨gn, 0, none⟩) rows.length rows.length) (List.replicate rows.length (.slice none 0 0))]) [0, 1] 2 rfl rfl)) | (have HP := Lib.hid (HN.out.pick (ρ := [aCel gO 36 Try.zeroCells36, aOwn 23 1 (.slice (some ⟨gn, 0, none⟩) rows.length rows.length) (List.replicate rows.length (.slice none 0 0))]) [1, 0] 2 rfl rfl))); refine St.stepRow rfl 36 (.tmp 3) (.tmp 16) rfl gO (Pk.outA (List.replicate 256 0) (.slice (some ⟨gn, 0, none⟩) rows.length rows.length) (.slice at1 nt ct)) rfl (congrArg Value.agg (Pk.outA_mk _ _)) HP.out (by rw [Pk.outA_size (by simp)]; exact pkInfo) (by rw [Pk.outA_size (by simp), HZ.out]) (Pk.outA_one _ _ _ rfl rfl) ?_; intro w8 hst8; have HN := Lib.hid hst8; clear hst8 HP) | (refine St.stepNew (T := 36) (cs := Try.zeroCells36) rfl (by intro u; kernel_rfl) HN.out ?_; intro gO w8 hst8; have HN := Lib.hid hst8; clear hst8))
      refine hK.out _ _ ?_ (fun hHeld => ?_)
      · (try dsimp only); (exact ⟨bkeep HN.out.bel x0, bkeep HN.out.bel x1⟩)
      clear hK K
      try simp only [List.getElem_toArray, List.getElem_cons_zero, List.getElem_cons_succ, Act.put, List.setIfInBounds_toArray, List.set_cons_zero, List.set_cons_succ]
      refine wpAnyH_ready (rs := [8]) (by kernel_rfl) (by simp) ?_
      refine AllReadyH.cons rfl (fun K hK => ?_) AllReadyH.nil
      (first | (refine St.stepMake rfl (.tmp 12) rfl Try.underlying34 (z := .slice none 0 0) (bytes := 24) (by kernel_rfl) rfl HN.out rows.length rfl (by omega) (by decide) ?_; intro gn w8 hst8; have HN := Lib.hid hst8; clear hst8) | ((first | (have HP := Lib.hid (HN.out.pick (ρ := [aCel gO 36 Try.zeroCells36, aOwn 23 1 (.slice (some ⟨gn, 0, none⟩) rows.length rows.length) (List.replicate rows.length (.slice none 0 0))]) [0, 1] 2 rfl rfl)) | (have HP := Lib.hid (HN.out.pick (ρ := [aCel gO 36 Try.zeroCells36, aOwn 23 1 (.slice (some ⟨gn, 0, none⟩) rows.length rows.length) (List.replicate rows.length (.slice none 0 0))]) [1, 0] 2 rfl rfl))); refine St.stepRow rfl 36 (.tmp 3) (.tmp 16) rfl gO (Pk.outA (List.replicate 256 0) (.slice (some ⟨gn, 0, none⟩) rows.length rows.length) (.slice at1 nt ct)) rfl (congrArg Value.agg (Pk.outA_mk _ _)) HP.out (by rw [Pk.outA_size (by simp)]; exact pkInfo) (by rw [Pk.outA_size (by simp), HZ.out]) (Pk.outA_one _ _ _ rfl rfl) ?_; intro w8 hst8; have HN := Lib.hid hst8; clear hst8 HP) | (refine St.stepNew (T := 36) (cs := Try.zeroCells36) rfl (by intro u; kernel_rfl) HN.out ?_; intro gO w8 hst8; have HN := Lib.hid hst8; clear hst8))
      refine hK.out _ _ ?_ (fun hHeld => ?_)
      · (try dsimp only); (exact ⟨bkeep HN.out.bel x0, bkeep HN.out.bel x1⟩)
      clear hK K
      try simp only [List.getElem_toArray, List.getElem_cons_zero, List.getElem_cons_succ, Act.put, List.setIfInBounds_toArray, List.set_cons_zero, List.set_cons_succ]
      refine wpAnyH_done (by kernel_rfl) ?_ _
      exact REST _ _ _ (HST.out.join HN.out)
    · skip
      (first | (refine St.stepMake rfl (.tmp 12) rfl Try.underlying34 (z := .slice none 0 0) (bytes := 24) (by kernel_rfl) rfl HN.out rows.length rfl (by omega) (by decide) ?_; intro gn w8 hst8; have HN := Lib.hid hst8; clear hst8) | ((first | (have HP := Lib.hid (HN.out.pick (ρ := [aCel gO 36 Try.zeroCells36, aOwn 23 1 (.slice (some ⟨gn, 0, none⟩) rows.length rows.length) (List.replicate rows.length (.slice none 0 0))]) [0, 1] 2 rfl rfl)) | (have HP := Lib.hid (HN.out.pick (ρ := [aCel gO 36 Try.zeroCells36, aOwn 23 1 (.slice (some ⟨gn, 0, none⟩) rows.length rows.length) (List.replicate rows.length (.slice none 0 0))]) [1, 0] 2 rfl rfl))); refine St.stepRow rfl 36 (.tmp 3) (.tmp 16) rfl gO (Pk.outA (List.replicate 256 0) (.slice (some ⟨gn, 0, none⟩) rows.length rows.length) (.slice at1 nt ct)) rfl (congrArg Value.agg (Pk.outA_mk _ _)) HP.out (by rw [Pk.outA_size (by simp)]; exact pkInfo) (by rw [Pk.outA_size (by simp), HZ.out]) (Pk.outA_one _ _ _ rfl rfl) ?_; intro w8 hst8; have HN := Lib.hid hst8; clear hst8 HP) | (refine St.stepNew (T := 36) (cs := Try.zeroCells36) rfl (by intro u; kernel_rfl) HN.out ?_; intro gO w8 hst8; have HN := Lib.hid hst8; clear hst8))
      refine hK.out _ _ ?_ (fun hHeld => ?_)
      · (try dsimp only); (exact ⟨bkeep HN.out.bel x0, bkeep HN.out.bel x1⟩)
      clear hK K
      try simp only [List.getElem_toArray, List.getElem_cons_zero, List.getElem_cons_succ, Act.put, List.setIfInBounds_toArray, List.set_cons_zero, List.set_cons_succ]
      refine wpAnyH_ready (rs := [3]) (by kernel_rfl) (by simp) ?_
      refine AllReadyH.cons rfl (fun K hK => ?_) (AllReadyH.nil)
      (first | (refine St.stepMake rfl (.tmp 12) rfl Try.underlying34 (z := .slice none 0 0) (bytes := 24) (by kernel_rfl) rfl HN.out rows.length rfl (by omega) (by decide) ?_; intro gn w8 hst8; have HN := Lib.hid hst8; clear hst8) | ((first | (have HP := Lib.hid (HN.out.pick (ρ := [aCel gO 36 Try.zeroCells36, aOwn 23 1 (.slice (some ⟨gn, 0, none⟩) rows.length rows.length) (List.replicate rows.length (.slice none 0 0))]) [0, 1] 2 rfl rfl)) | (have HP := Lib.hid (HN.out.pick (ρ := [aCel gO 36 Try.zeroCells36, aOwn 23 1 (.slice (some ⟨gn, 0, none⟩) rows.length rows.length) (List.replicate rows.length (.slice none 0 0))]) [1, 0] 2 rfl rfl))); refine St.stepRow rfl 36 (.tmp 3) (.tmp 16) rfl gO (Pk.outA (List.replicate 256 0) (.slice (some ⟨gn, 0, none⟩) rows.length rows.length) (.slice at1 nt ct)) rfl (congrArg Value.agg (Pk.outA_mk _ _)) HP.out (by rw [Pk.outA_size (by simp)]; exact pkInfo) (by rw [Pk.outA_size (by simp), HZ.out]) (Pk.outA_one _ _ _ rfl rfl) ?_; intro w8 hst8; have HN := Lib.hid hst8; clear hst8 HP) | (refine St.stepNew (T := 36) (cs := Try.zeroCells36) rfl (by intro u; kernel_rfl) HN.out ?_; intro gO w8 hst8; have HN := Lib.hid hst8; clear hst8))
      refine hK.out _ _ ?_ (fun hHeld => ?_)
      · (try dsimp only); (exact ⟨bkeep HN.out.bel x0, bkeep HN.out.bel x1⟩)
      clear hK K
      try simp only [List.getElem_toArray, List.getElem_cons_zero, List.getElem_cons_succ, Act.put, List.setIfInBounds_toArray, List.set_cons_zero, List.set_cons_succ]
      refine wpAnyH_take (i := 6) (v := ?_) rfl (by kernel_rfl) (by kernel_rfl) (by kernel_rfl) (fun _ _ _ h => h) (Or.inl ⟨by rfl, ?_⟩) (by assumption) ?_
      rotate_left; focus (intro w hSw; (try dsimp only at hSw); go_simp; try (with_reducible rfl); done)
      try simp only [List.getElem_toArray, List.getElem_cons_zero, List.getElem_cons_succ, Act.put, List.setIfInBounds_toArray, List.set_cons_zero, List.set_cons_succ]
      refine wpAnyH_ready (rs := [8]) (by kernel_rfl) (by simp) ?_
      refine AllReadyH.cons rfl (fun K hK => ?_) AllReadyH.nil
      (first | (refine St.stepMake rfl (.tmp 12) rfl Try.underlying34 (z := .slice none 0 0) (bytes := 24) (by kernel_rfl) rfl HN.out rows.length rfl (by omega) (by decide) ?_; intro gn w8 hst8; have HN := Lib.hid hst8; clear hst8) | ((first | (have HP := Lib.hid (HN.out.pick (ρ := [aCel gO 36 Try.zeroCells36, aOwn 23 1 (.slice (some ⟨gn, 0, none⟩) rows.length rows.length) (List.replicate rows.length (.slice none 0 0))]) [0, 1] 2 rfl rfl)) | (have HP := Lib.hid (HN.out.pick (ρ := [aCel gO 36 Try.zeroCells36, aOwn 23 1 (.slice (some ⟨gn, 0, none⟩) rows.length rows.length) (List.replicate rows.length (.slice none 0 0))]) [1, 0] 2 rfl rfl))); refine St.stepRow rfl 36 (.tmp 3) (.tmp 16) rfl gO (Pk.outA (List.replicate 256 0) (.slice (some ⟨gn, 0, none⟩) rows.length rows.length) (.slice at1 nt ct)) rfl (congrArg Value.agg (Pk.outA_mk _ _)) HP.out (by rw [Pk.outA_size (by simp)]; exact pkInfo) (by rw [Pk.outA_size (by simp), HZ.out]) (Pk.outA_one _ _ _ rfl rfl) ?_; intro w8 hst8; have HN := Lib.hid hst8; clear hst8 HP) | (refine St.stepNew (T := 36) (cs := Try.zeroCells36) rfl (by intro u; kernel_rfl) HN.out ?_; intro gO w8 hst8; have HN := Lib.hid hst8; clear hst8))
      refine hK.out _ _ ?_ (fun hHeld => ?_)
      · (try dsimp only); (exact ⟨bkeep HN.out.bel x0, bkeep HN.out.bel x1⟩)
      clear hK K
      try simp only [List.getElem_toArray, List.getElem_cons_zero, List.getElem_cons_succ, Act.put, List.setIfInBounds_toArray, List.set_cons_zero, List.set_cons_succ]
      refine wpAnyH_done (by kernel_rfl) ?_ _
      exact REST _ _ _ (HST.out.join HN.out)
  intro gn gO W hst
  have HST := Lib.hid hst
  clear hst x0 x1 HN
  go_wp2_with (fail)
  go_loopg [4, 5] 256 (fun gk v4 v5 wr => ∃ (bb : Nat) (q : List (Ll.SV × List Int)) (vf : Value), bb ≤ 256 ∧ gk = 256 - bb ∧ v5 = .int .i64 bb ∧ vf = v4 ∧ Hid (q.map Prod.snd = Pk.nx rows (Pk.run rows bb).1) ∧ St w wr (Pk.baseR w.heap.size gO gn b off cap (.slice at1 nt ct) vf rows.length (Pk.ofP rows bb) q (Pk.run rows bb).1))
  case atStart =>
    refine ⟨0, List.replicate rows.length ((none, 0, 0), []), _, by omega, rfl, rfl, rfl, Lib.hid ?_, ?_⟩
    · rw [List.map_replicate, show (Pk.run rows 0).1 = [] from rfl, Pk.nx_nil]
    · have e1 : ((List.replicate rows.length (((none, 0, 0), []) : Ll.SV × List Int)).map Prod.fst).map Ll.slV = List.replicate rows.length (.slice none 0 0) := by simp [Ll.slV]
      have h2 := Pk.rowsNil rows.length (HST.out.nilOwn 3 1)
      unfold Pk.baseR
      rw [e1, Pk.ofP_zero]
      exact h2.pick [2, 1, 3, 0, 4, 5] 6 rfl rfl
  case round =>
    clear HST
    obtain ⟨bb, q, vf, hbb, hgk, rfl, rfl, HQ, hst⟩ := hrel
    have HGK := Lib.hid hgk
    clear hgk
    by_cases hlt : bb < 256
    · have hbi : (bb : Int) < 256 := by omega
      obtain ⟨af, cf, hvf⟩ := (hst.nth 1 rfl).own.isLen
      rw [List.length_map] at hvf
      have hfl := (Pk.run_len rows bb).1
      have HFL := Lib.hid (Pk.run_lt (rows := rows) bb)
      have HST := Lib.hid hst
      clear hst
      subst hvf
      have hpl := Pk.place_le rows (Pk.run rows bb).1 bb
      obtain ⟨pl, hple⟩ : ∃ pl, Pk.place rows (Pk.run rows bb).1 bb = pl := ⟨_, rfl⟩
      have HPL := Lib.hid hple
      rw [hple] at hpl
      clear hple
      obtain ⟨fs, hfs⟩ : ∃ fs, (Pk.run rows bb).1 = fs := ⟨_, rfl⟩
      have HFS := Lib.hid hfs
      rw [hfs] at HPL HFL HQ HST hpl hfl ⊢
      clear hfs
      have hfi : (fs.length : Int) ≤ 256 := by omega
      have HOL := Lib.hid (Pk.ofP_len (rows := rows) (show bb ≤ 256 by omega))
      go_upto_block 2 with (fail)
      go_cut [6] (fun v6 wx => v6 = .int .i64 (pl : Int) ∧ St w wx (Pk.baseR w.heap.size gO gn b off cap (.slice at1 nt ct) (.slice af fs.length cf) rows.length (Pk.ofP rows bb) q fs))
      case first =>
        go_wp2_with (fail)
        go_loopg [6] fs.length (fun gk v6 wr => ∃ (a : Nat), a ≤ fs.length ∧ gk = fs.length - a ∧ v6 = .int .i64 a ∧ Hid (∀ j, j < a → Pk.col rows (fs.getD j 0) ≠ Pk.col rows bb) ∧ St w wr (Pk.baseR w.heap.size gO gn b off cap (.slice at1 nt ct) (.slice af fs.length cf) rows.length (Pk.ofP rows bb) q fs))
        case atStart => exact ⟨0, by omega, by omega, rfl, Lib.hid (fun j hj => by omega), HST.out⟩
        case round =>
          clear HST
          obtain ⟨a, ha, hgk, rfl, HNO, hst⟩ := hrel
          have HGKA := Lib.hid hgk
          clear hgk
          by_cases hlta : a < fs.length
          · obtain ⟨hfa, rfl⟩ : ∃ g, af = some ⟨g, 0, none⟩ := (hst.nth 1 rfl).own.addr (by rw [List.length_map]; omega)
            have HFA := Lib.hid fun (W : World) (h : St w W (Pk.baseR w.heap.size gO gn b off cap (.slice at1 nt ct) (.slice (some ⟨hfa, 0, none⟩) fs.length cf) rows.length (Pk.ofP rows bb) q fs)) => ((show St w W [aOwn 3 1 (.slice (some ⟨hfa, 0, none⟩) fs.length cf) (fs.map Pk.fV)] from h.nth 1 rfl).cellOwn (f := Pk.fV) (fun _ => rfl) a hlta 0).1
            have hflt := HFL.out (fs.getD a 0) (by rw [show fs.getD a 0 = fs[a] by simp [List.getD, List.getElem?_eq_getElem hlta]]; exact List.getElem_mem hlta)
            have HFA1 := Lib.hid (show fs.getD a 0 = fs.getD a 0 from rfl)
            generalize hff : fs.getD a 0 = f at HFA hflt
            have HFF := Lib.hid hff
            clear hff HFA1
            have HST := Lib.hid hst
            clear hst
            go_wp2_with (fail)
            go_loopg [7, 8] rows.length (fun gk v7 v8 wr => ∃ (i : Nat) (sm : Bool), i ≤ rows.length ∧ gk = rows.length - i ∧ v7 = .bool sm ∧ v8 = .int .i64 i ∧ Hid (Pk.same rows f bb i = sm) ∧ St w wr (Pk.baseR w.heap.size gO gn b off cap (.slice at1 nt ct) (.slice (some ⟨hfa, 0, none⟩) fs.length cf) rows.length (Pk.ofP rows bb) q fs))
            case atStart => exact ⟨0, true, by omega, by omega, rfl, rfl, Lib.hid (Pk.same_zero _ _ _), HST.out⟩
            case round =>
              clear HST
              obtain ⟨i, sm, hi, hgk, rfl, rfl, HSM, hst⟩ := hrel
              have HGKI := Lib.hid hgk
              clear hgk
              have y0 := (hst.at2 5 rfl).1
              by_cases hlti : i < rows.length
              · cases sm
                · have HNE := Lib.hid (Pk.same_no HSM.out hi)
                  have HST := Lib.hid hst
                  clear hst
                  go_wp2
                  go_roundg (fs.length - (a + 1))
                  case measure => have := HGKA.out; omega
                  case rel =>
                    refine ⟨a + 1, by omega, rfl, by go_num, Lib.hid (fun j hj => ?_), HST.out⟩
                    by_cases e : j = a
                    · subst e; rw [HFF.out]; exact HNE.out
                    · exact HNO.out j (by omega)
                · have hrow := rangeAt_below hst.bel (C4.out i hlti)
                  have hlen := C5.out i hlti
                  have hs := Pk.same_succ rows f bb i
                  rw [HSM.out, Bool.true_and] at hs
                  have hx1 : wr.cell? ⟨b, off + i * 256 + bb, none⟩ = some (.int .i16 ((rows.getD i []).getD bb 0)) := hrow bb _ (Aut.row_get _ bb (by rw [hlen.1]; exact hlt))
                  have hx2 : wr.cell? ⟨b, off + i * 256 + f, none⟩ = some (.int .i16 ((rows.getD i []).getD f 0)) := hrow f _ (Aut.row_get _ f (by rw [hlen.1]; omega))
                  have hx3 : wr.cell? ⟨hfa, a, none⟩ = some (.int .i64 (f : Int)) := HFA.out _ hst
                  generalize (rows.getD i []).getD bb 0 = x at *
                  generalize (rows.getD i []).getD f 0 = y at *
                  obtain ⟨E, hE⟩ : ∃ E, (x == y) = E := ⟨_, rfl⟩
                  have hs2 : Pk.same rows f bb (i + 1) = E := by
                    rw [hs, ← hE, Bool.eq_iff_iff, beq_iff_eq, beq_iff_eq]; exact eq_comm
                  have HS2 := Lib.hid hs2
                  have HST := Lib.hid hst
                  have hfi2 : (f : Int) < 256 := by omega
                  clear hst hs hs2 hrow hlen HSM
                  go_wp2
                  go_quiet (fail)
                  have HSTN := Lib.hid fun n => HST.out.drewN n
                  clear HST hx1 hx2 hx3 y0
                  go_wp2
                  go_roundg (rows.length - (i + 1))
                  case measure => have := HGKI.out; omega
                  case rel => exact ⟨i + 1, E, by omega, rfl, rfl, by go_num, HS2, HSTN.out _⟩
              · obtain rfl : i = rows.length := by omega
                have HST := Lib.hid hst
                clear hst
                cases sm
                · have HNE := Lib.hid (Pk.same_no HSM.out (Nat.le_refl _))
                  go_wp2
                  go_roundg (fs.length - (a + 1))
                  case measure => have := HGKA.out; omega
                  case rel =>
                    refine ⟨a + 1, by omega, rfl, by go_num, Lib.hid (fun j hj => ?_), HST.out⟩
                    by_cases e : j = a
                    · subst e; rw [HFF.out]; exact HNE.out
                    · exact HNO.out j (by omega)
                · have hsm := HSM.out
                  rw [Pk.same_all, decide_eq_true_iff] at hsm
                  have HEQ := Lib.hid (Pk.place_at hlta HNO.out (by rw [HFF.out]; exact hsm))
                  clear hsm
                  go_wp2_with (fail)
                  go_meet
                  exact ⟨by rw [← HPL.out, HEQ.out], HST.out⟩
          · obtain rfl : a = fs.length := by omega
            have HEQ := Lib.hid (Pk.place_none HNO.out)
            have HST := Lib.hid hst
            clear hst
            go_wp2_with (fail)
            go_meet
            exact ⟨by rw [← HPL.out, HEQ.out], HST.out⟩
      case rest =>
        clear HST
        obtain ⟨rfl, hst⟩ := hcut
        have HOF := Lib.hid (Pk.ofP_step (rows := rows) hlt)
        by_cases hp : pl = fs.length
        · subst hp
          have hbe : ((fs.length : Int) == (fs.length : Int)) = true := beq_self_eq_true _
          have HST := Lib.hid (hst.pick (ρ := [aOwn 3 1 (.slice af fs.length cf) (fs.map Pk.fV), aCel gO 36 (Pk.outA (Pk.ofP rows bb) (.slice (some ⟨gn, 0, none⟩) rows.length rows.length) (.slice at1 nt ct)), aOwn 23 1 (.slice (some ⟨gn, 0, none⟩) rows.length rows.length) ((q.map Prod.fst).map Ll.slV), aAll (q.map Pk.aRow), aCel (w.heap.size + 1) 36 Try.zeroCells36, aCel w.heap.size 25 #[.slice (some ⟨b, off, none⟩) rows.length cap, .slice at1 nt ct]]) [1, 0, 2, 3, 4, 5] 6 rfl rfl)
          clear hst
          go_wp2_with (refine St.app1n intE rfl (.tmp 60) (.tmp 62) rfl rfl HST.out (.int .i64 (bb : Int)) rfl wc.heap.size 1 rfl rfl rfl (by intro q hq; simp [Value.cells] at hq; subst hq; rfl) (by rw [List.length_map]; unfold maxLen; omega) (by rw [List.length_map]; omega) ?_; intro g' n' c' w9 hst9; have HST9 := Lib.hid hst9; clear hst9 HST)
          generalize g' = gf at *
          generalize n' = nf at *
          generalize c' = cf2 at *
          have HQ2 : Hid (q.map Prod.snd = Pk.nxK rows fs bb 0) := Lib.hid (by rw [Pk.nxK_zero]; exact HQ.out)
          have HST := Lib.hid (show St w w9 (Pk.baseR w.heap.size gO gn b off cap (.slice at1 nt ct) (.slice (some ⟨gf, 0, none⟩) nf cf2) rows.length (Pk.ofP rows bb) q (fs ++ [bb])) from by
            have h1 := HST9.out.pick (ρ := [aCel gO 36 (Pk.outA (Pk.ofP rows bb) (.slice (some ⟨gn, 0, none⟩) rows.length rows.length) (.slice at1 nt ct)), aOwn 3 1 (.slice (some ⟨gf, 0, none⟩) nf cf2) (fs.map Pk.fV ++ [.int .i64 (bb : Int)]), aOwn 23 1 (.slice (some ⟨gn, 0, none⟩) rows.length rows.length) ((q.map Prod.fst).map Ll.slV), aAll (q.map Pk.aRow), aCel (w.heap.size + 1) 36 Try.zeroCells36, aCel w.heap.size 25 #[.slice (some ⟨b, off, none⟩) rows.length cap, .slice at1 nt ct]]) [1, 0, 2, 3, 4, 5] 6 rfl rfl
            unfold Pk.baseR
            rw [List.map_append]
            exact h1)
          clear HST9 HQ
          go_loopg [9] rows.length (fun gk v wr => ∃ (k : Nat) (q : List (Ll.SV × List Int)), k ≤ rows.length ∧ gk = rows.length - k ∧ v = .int .i64 k ∧ Hid (q.map Prod.snd = Pk.nxK rows fs bb k) ∧ St w wr (Pk.baseR w.heap.size gO gn b off cap (.slice at1 nt ct) (.slice (some ⟨gf, 0, none⟩) nf cf2) rows.length (Pk.ofP rows bb) q (fs ++ [bb])))
          case atStart => exact ⟨0, q, by omega, by omega, rfl, HQ2, HST.out⟩
          case round =>
            clear HST HQ2
            clear q
            obtain ⟨k, q, hk, hgk, rfl, HQ, hst⟩ := hrel
            have HGK2 := Lib.hid hgk
            clear hgk
            by_cases hlt2 : k < rows.length
            · have hrow := rangeAt_below hst.bel (C4.out k hlt2)
              have hlen := C5.out k hlt2
              have HNS := Lib.hid (Pk.nxK_step (fs := fs) (b := bb) hlt2)
              have hqk : k < q.length := by have := congrArg List.length HQ.out; rw [List.length_map, Pk.nxK_len] at this; omega
              have hqs : (q.getD k ((none, 0, 0), [])).2 = Pk.pick fs (rows.getD k []) := by
                rw [← Pk.nxK_get (b := bb) hlt2, ← HQ.out]
                simp [List.getD, List.getElem?_eq_getElem hqk]
              have hqf : (q.map Prod.fst).getD k (none, 0, 0) = (q.getD k ((none, 0, 0), [])).1 := by
                simp [List.getD, List.getElem?_eq_getElem hqk]
              have HQK := Lib.hid hqk; have HQS := Lib.hid hqs; have HQF := Lib.hid hqf
              clear hqk hqs hqf
              have z0 : wr.cell? ⟨b, off + k * 256 + bb, none⟩ = some (.int .i16 ((rows.getD k []).getD bb 0)) := hrow bb _ (Aut.row_get _ bb (by rw [hlen.1]; exact hlt))
              have hxb := Aut.i16_bounds (rows.getD k []) bb (by rw [hlen.1]; exact hlt) hlen.2
              generalize rows.getD k [] = row at *
              have hxw : IntKind.i64.wrap (row.getD bb 0) = row.getD bb 0 := IntWalk.i64_in _ (by omega)
              obtain ⟨x, hx⟩ : ∃ x, x = row.getD bb 0 := ⟨_, rfl⟩
              rw [← hx] at hxb hxw z0
              have HX := Lib.hid hx
              clear hx hrow
              obtain ⟨hx1, hx2⟩ := hxb
              obtain ⟨s, hs⟩ : ∃ s, s = (q.getD k ((none, 0, 0), [])).1 := ⟨_, rfl⟩
              have HSS := Lib.hid hs
              clear hs hlen
              have HSTD := Lib.hid hst.drew
              have HZW := Lib.hid (fun (W : World) (hb : Below w.heap.size w W) => (show W.cell? ⟨b, off + k * 256 + bb, none⟩ = some (.int .i16 x) from (hb.cell (p := ⟨b, off + k * 256 + bb, none⟩) hb0.out).trans ((hst.bel.cell (p := ⟨b, off + k * 256 + bb, none⟩) hb0.out).symm.trans z0)))
              have z0 : wr.drew.cell? ⟨b, off + k * 256 + bb, none⟩ = some (.int .i16 x) := z0
              have y0 := (HSTD.out.at2 5 rfl).1
              have o0 := (HSTD.out.nth 0 rfl).celAt (i := 256) (Pk.outA_next HOL.out)
              have r0 : wr.drew.cell? ⟨gn, k, none⟩ = some (.slice s.1 s.2.1 s.2.2) := by
                rw [HSS.out, ← HQF.out]
                exact ((show St w wr.drew [aOwn 23 1 (.slice (some ⟨gn, 0, none⟩) rows.length rows.length) ((q.map Prod.fst).map Ll.slV)] from HSTD.out.nth 2 rfl).cellOwn (f := Ll.slV) (fun _ => rfl) k (by rw [List.length_map]; exact HQK.out) (none, 0, 0)).1
              have y1 : wr.cell? ⟨w.heap.size, 0, none⟩ = _ := y0
              clear hst
              have hba := (Below.refl wr.drew.heap.size wr.drew).alloc (Nat.le_refl _) (.cells #[.int .i64 x] 3)
              have o0a := bkeep hba o0
              have z0a := bkeep hba z0
              have y0a := bkeep hba y0
              have r0a := bkeep hba r0
              have r0d : (wr.alloc (.cells #[.int .i64 x] 3)).cell? ⟨gn, k, none⟩ = some (.slice s.1 s.2.1 s.2.2) := r0a
              clear hba
              have HROW := Lib.hid (show St w wr.drew (aOwn 3 1 (.slice s.1 s.2.1 s.2.2) ((Pk.pick fs row).map Ll.iV) :: aAll ((q.eraseIdx k).map Pk.aRow) :: [aOwn 23 1 (.slice (some ⟨gn, 0, none⟩) rows.length rows.length) ((q.map Prod.fst).map Ll.slV), aCel gO 36 (Pk.outA (Pk.ofP rows bb) (.slice (some ⟨gn, 0, none⟩) rows.length rows.length) (.slice at1 nt ct)), aOwn 3 1 (.slice (some ⟨gf, 0, none⟩) nf cf2) ((fs ++ [bb]).map Pk.fV), aCel (w.heap.size + 1) 36 Try.zeroCells36, aCel w.heap.size 25 #[.slice (some ⟨b, off, none⟩) rows.length cap, .slice at1 nt ct]]) from by
                have h1 := (HSTD.out.pick (ρ := aAll (q.map Pk.aRow) :: [aOwn 23 1 (.slice (some ⟨gn, 0, none⟩) rows.length rows.length) ((q.map Prod.fst).map Ll.slV), aCel gO 36 (Pk.outA (Pk.ofP rows bb) (.slice (some ⟨gn, 0, none⟩) rows.length rows.length) (.slice at1 nt ct)), aOwn 3 1 (.slice (some ⟨gf, 0, none⟩) nf cf2) ((fs ++ [bb]).map Pk.fV), aCel (w.heap.size + 1) 36 Try.zeroCells36, aCel w.heap.size 25 #[.slice (some ⟨b, off, none⟩) rows.length cap, .slice at1 nt ct]]) [3, 2, 0, 1, 4, 5] 6 rfl rfl).allTakeAt k HQK.out ((none, 0, 0), [])
                unfold Pk.aRow at h1
                rw [HQS.out, ← HSS.out] at h1
                exact h1)
              have hpl : (Pk.pick fs row).length = fs.length := by simp [Pk.pick]
              have HPLN := Lib.hid hpl
              clear hpl
              have HEND := Lib.hid (fun (g' n' c' : Nat) (W : World) (h : St w W [aOwn 23 1 (.slice (some ⟨gn, 0, none⟩) rows.length rows.length) (((q.map Prod.fst).set k (some ⟨g', 0, none⟩, n', c')).map Ll.slV), aOwn 3 1 (.slice (some ⟨g', 0, none⟩) n' c') ((Pk.pick fs row).map Ll.iV ++ [.int .i64 x]), aAll ((q.eraseIdx k).map Pk.aRow), aCel gO 36 (Pk.outA (Pk.ofP rows bb) (.slice (some ⟨gn, 0, none⟩) rows.length rows.length) (.slice at1 nt ct)), aOwn 3 1 (.slice (some ⟨gf, 0, none⟩) nf cf2) ((fs ++ [bb]).map Pk.fV), aCel (w.heap.size + 1) 36 Try.zeroCells36, aCel w.heap.size 25 #[.slice (some ⟨b, off, none⟩) rows.length cap, .slice at1 nt ct]]) => (show St w W (Pk.baseR w.heap.size gO gn b off cap (.slice at1 nt ct) (.slice (some ⟨gf, 0, none⟩) nf cf2) rows.length (Pk.ofP rows bb) (q.set k ((some ⟨g', 0, none⟩, n', c'), Pk.pick fs row ++ [x])) (fs ++ [bb])) from by
                have h1 := h.pick (ρ := aOwn 3 1 (.slice (some ⟨g', 0, none⟩) n' c') ((Pk.pick fs row).map Ll.iV ++ [.int .i64 x]) :: aAll ((q.eraseIdx k).map Pk.aRow) :: [aOwn 23 1 (.slice (some ⟨gn, 0, none⟩) rows.length rows.length) (((q.map Prod.fst).set k (some ⟨g', 0, none⟩, n', c')).map Ll.slV), aCel gO 36 (Pk.outA (Pk.ofP rows bb) (.slice (some ⟨gn, 0, none⟩) rows.length rows.length) (.slice at1 nt ct)), aOwn 3 1 (.slice (some ⟨gf, 0, none⟩) nf cf2) ((fs ++ [bb]).map Pk.fV), aCel (w.heap.size + 1) 36 Try.zeroCells36, aCel w.heap.size 25 #[.slice (some ⟨b, off, none⟩) rows.length cap, .slice at1 nt ct]]) [1, 2, 0, 3, 4, 5, 6] 7 rfl rfl
                have e1 : aOwn 3 1 (.slice (some ⟨g', 0, none⟩) n' c') ((Pk.pick fs row).map Ll.iV ++ [.int .i64 x]) = Pk.aRow ((some ⟨g', 0, none⟩, n', c'), Pk.pick fs row ++ [x]) := by
                  unfold Pk.aRow; rw [List.map_append]; rfl
                rw [e1] at h1
                have h2 := h1.allPutAt HQK.out
                have e2 : (q.map Prod.fst).set k (some ⟨g', 0, none⟩, n', c') = (q.set k ((some ⟨g', 0, none⟩, n', c'), Pk.pick fs row ++ [x])).map Prod.fst := by rw [List.map_set]
                rw [e2] at h2
                exact h2.pick [2, 3, 1, 0, 4, 5] 6 rfl rfl))
              go_wp2_with (fail)
              refine wp_region_held_drew (S := (fun w' => w'.cell? ⟨gO, 256, none⟩ = some (.slice (some ⟨gn, 0, none⟩) rows.length rows.length) ∧ w'.cell? ⟨b, off + k * 256 + bb, none⟩ = some (.int .i16 x) ∧ w'.cell? ⟨w.heap.size, 0, none⟩ = some (.slice (some ⟨b, off, none⟩) rows.length cap))) (by kernel_rfl) ?_ (fun hHeld => ?_)
              · (try dsimp only); (first | exact ⟨o0, z0, y0⟩ | exact ⟨o0a, z0a, y0a⟩ | exact ⟨o0b, z0b, y0b⟩ | exact ⟨o0c, z0c, y0c⟩)

              refine wpAnyH_take (i := 0) (v := ?_) rfl (by kernel_rfl) (by kernel_rfl) (by kernel_rfl) (fun _ _ _ h => h) (Or.inl ⟨by rfl, ?_⟩) (by assumption) ?_
              rotate_left; focus (intro w hSw; (try dsimp only at hSw); go_simp; try (with_reducible rfl); done)
              try simp only [List.getElem_toArray, List.getElem_cons_zero, List.getElem_cons_succ, Act.put, List.setIfInBounds_toArray, List.set_cons_zero, List.set_cons_succ]
              refine wpAnyH_take (i := 1) (v := ?_) rfl (by kernel_rfl) (by kernel_rfl) (by kernel_rfl) (fun _ _ _ h => h) (Or.inl ⟨by rfl, ?_⟩) (by assumption) ?_
              rotate_left; focus (intro w hSw; (try dsimp only at hSw); go_simp; try (with_reducible rfl); done)
              try simp only [List.getElem_toArray, List.getElem_cons_zero, List.getElem_cons_succ, Act.put, List.setIfInBounds_toArray, List.set_cons_zero, List.set_cons_succ]
              refine wpAnyH_take (i := 2) (v := ?_) rfl (by kernel_rfl) (by kernel_rfl) (by kernel_rfl) (fun _ _ _ h => h) (Or.inl ⟨by rfl, ?_⟩) (by assumption) ?_
              rotate_left; focus (intro w hSw; (try dsimp only at hSw); go_simp; try (with_reducible rfl); done)
              try simp only [List.getElem_toArray, List.getElem_cons_zero, List.getElem_cons_succ, Act.put, List.setIfInBounds_toArray, List.set_cons_zero, List.set_cons_succ]
              refine wpAnyH_take (i := 3) (v := ?_) rfl (by kernel_rfl) (by kernel_rfl) (by kernel_rfl) (fun _ _ _ h => h) (Or.inl ⟨by rfl, ?_⟩) (by assumption) ?_
              rotate_left; focus (intro w hSw; (try dsimp only at hSw); go_simp; try (with_reducible rfl); done)
              try simp only [List.getElem_toArray, List.getElem_cons_zero, List.getElem_cons_succ, Act.put, List.setIfInBounds_toArray, List.set_cons_zero, List.set_cons_succ]
              refine wpAnyH_take (i := 4) (v := ?_) rfl (by kernel_rfl) (by kernel_rfl) (by kernel_rfl) (fun _ _ _ h => h) (Or.inl ⟨by rfl, ?_⟩) (by assumption) ?_
              rotate_left; focus (intro w hSw; (try dsimp only at hSw); go_simp; try (with_reducible rfl); done)
              try simp only [List.getElem_toArray, List.getElem_cons_zero, List.getElem_cons_succ, Act.put, List.setIfInBounds_toArray, List.set_cons_zero, List.set_cons_succ]
              refine wpAnyH_take (i := 5) (v := ?_) rfl (by kernel_rfl) (by kernel_rfl) (by kernel_rfl) (fun _ _ _ h => h) (Or.inl ⟨by rfl, ?_⟩) (by assumption) ?_
              rotate_left; focus (intro w hSw; (try dsimp only at hSw); go_simp; try (with_reducible rfl); done)
              try simp only [List.getElem_toArray, List.getElem_cons_zero, List.getElem_cons_succ, Act.put, List.setIfInBounds_toArray, List.set_cons_zero, List.set_cons_succ]
              refine wpAnyH_take (i := 6) (v := ?_) rfl (by kernel_rfl) (by kernel_rfl) (by kernel_rfl) (fun _ _ _ h => h) (Or.inl ⟨by rfl, ?_⟩) (by assumption) ?_
              rotate_left; focus (intro w hSw; (try dsimp only at hSw); go_simp; try (with_reducible rfl); done)
              try simp only [List.getElem_toArray, List.getElem_cons_zero, List.getElem_cons_succ, Act.put, List.setIfInBounds_toArray, List.set_cons_zero, List.set_cons_succ]
              refine wpAnyH_take (i := 8) (v := ?_) rfl (by kernel_rfl) (by kernel_rfl) (by kernel_rfl) (fun _ _ _ h => h) (Or.inl ⟨by rfl, ?_⟩) (by assumption) ?_
              rotate_left; focus (intro w hSw; (try dsimp only at hSw); go_simp; try (with_reducible rfl); done)
              try simp only [List.getElem_toArray, List.getElem_cons_zero, List.getElem_cons_succ, Act.put, List.setIfInBounds_toArray, List.set_cons_zero, List.set_cons_succ]
              refine wpAnyH_take (i := 9) (v := ?_) rfl (by kernel_rfl) (by kernel_rfl) (by kernel_rfl) (fun _ _ _ h => h) (Or.inl ⟨by rfl, ?_⟩) (by assumption) ?_
              rotate_left; focus (intro w hSw; (try dsimp only at hSw); go_simp; try (with_reducible rfl); done)
              try simp only [List.getElem_toArray, List.getElem_cons_zero, List.getElem_cons_succ, Act.put, List.setIfInBounds_toArray, List.set_cons_zero, List.set_cons_succ]
              refine wpAnyH_take (i := 10) (v := ?_) rfl (by kernel_rfl) (by kernel_rfl) (by kernel_rfl) (fun _ _ _ h => h) (Or.inl ⟨by rfl, ?_⟩) (by assumption) ?_
              rotate_left; focus (intro w hSw; (try dsimp only at hSw); go_simp; try (with_reducible rfl); done)
              try simp only [List.getElem_toArray, List.getElem_cons_zero, List.getElem_cons_succ, Act.put, List.setIfInBounds_toArray, List.set_cons_zero, List.set_cons_succ]
              refine wpAnyH_take (i := 11) (v := ?_) rfl (by kernel_rfl) (by kernel_rfl) (by kernel_rfl) (fun _ _ _ h => h) (Or.inl ⟨by rfl, ?_⟩) (by assumption) ?_
              rotate_left; focus (intro w hSw; (try dsimp only at hSw); go_simp; try (with_reducible rfl); done)
              try simp only [List.getElem_toArray, List.getElem_cons_zero, List.getElem_cons_succ, Act.put, List.setIfInBounds_toArray, List.set_cons_zero, List.set_cons_succ]
              refine wpAnyH_take (i := 12) (v := ?_) rfl (by kernel_rfl) (by kernel_rfl) (by kernel_rfl) (fun _ _ _ h => h) (Or.inl ⟨by rfl, ?_⟩) (by assumption) ?_
              rotate_left; focus (intro w hSw; (try dsimp only at hSw); go_simp; try (with_reducible rfl); done)
              try simp only [List.getElem_toArray, List.getElem_cons_zero, List.getElem_cons_succ, Act.put, List.setIfInBounds_toArray, List.set_cons_zero, List.set_cons_succ]
              refine wpAnyH_take (i := 13) (v := ?_) rfl (by kernel_rfl) (by kernel_rfl) (by kernel_rfl) (fun _ _ _ h => h) (Or.inl ⟨by rfl, ?_⟩) (by assumption) ?_
              rotate_left; focus (intro w hSw; (try dsimp only at hSw); go_simp; try (with_reducible rfl); done)
              try simp only [List.getElem_toArray, List.getElem_cons_zero, List.getElem_cons_succ, Act.put, List.setIfInBounds_toArray, List.set_cons_zero, List.set_cons_succ]
              refine wpAnyH_take (i := 14) (v := ?_) rfl (by kernel_rfl) (by kernel_rfl) (by kernel_rfl) (fun _ _ _ h => h) (Or.inl ⟨by rfl, ?_⟩) (by assumption) ?_
              rotate_left; focus (intro w hSw; (try dsimp only at hSw); go_simp; try (with_reducible rfl); done)
              try simp only [List.getElem_toArray, List.getElem_cons_zero, List.getElem_cons_succ, Act.put, List.setIfInBounds_toArray, List.set_cons_zero, List.set_cons_succ]
              refine wpAnyH_take (i := 15) (v := ?_) rfl (by kernel_rfl) (by kernel_rfl) (by kernel_rfl) (fun _ _ _ h => h) (Or.inl ⟨by rfl, ?_⟩) (by assumption) ?_
              rotate_left; focus (intro w hSw; (try dsimp only at hSw); go_simp; try (with_reducible rfl); done)
              try simp only [List.getElem_toArray, List.getElem_cons_zero, List.getElem_cons_succ, Act.put, List.setIfInBounds_toArray, List.set_cons_zero, List.set_cons_succ]
              refine wpAnyH_ready (rs := [7, 16]) (by kernel_rfl) (by simp) ?_
              refine AllReadyH.cons rfl (fun K hK => ?_) (AllReadyH.cons rfl (fun K hK => ?_) (AllReadyH.nil))
              · skip
                go_simp
                refine hK.out _ _ ?_ (fun hHeld => ?_)
                · (try dsimp only); (first | exact ⟨o0, z0, y0⟩ | exact ⟨o0a, z0a, y0a⟩ | exact ⟨o0b, z0b, y0b⟩ | exact ⟨o0c, z0c, y0c⟩)
                clear hK K
                try simp only [List.getElem_toArray, List.getElem_cons_zero, List.getElem_cons_succ, Act.put, List.setIfInBounds_toArray, List.set_cons_zero, List.set_cons_succ]
                refine wpAnyH_ready (rs := [16]) (by kernel_rfl) (by simp) ?_
                refine AllReadyH.cons rfl (fun K hK => ?_) (AllReadyH.nil)
                go_simp
                refine hK.out _ _ ?_ (fun hHeld => ?_)
                · (try dsimp only); (first | exact ⟨o0, z0, y0⟩ | exact ⟨o0a, z0a, y0a⟩ | exact ⟨o0b, z0b, y0b⟩ | exact ⟨o0c, z0c, y0c⟩)
                clear hK K
                try simp only [List.getElem_toArray, List.getElem_cons_zero, List.getElem_cons_succ, Act.put, List.setIfInBounds_toArray, List.set_cons_zero, List.set_cons_succ]
                refine wpAnyH_ready (rs := [17]) (by kernel_rfl) (by simp) ?_
                refine AllReadyH.cons rfl (fun K hK => ?_) AllReadyH.nil
                (refine St.step1n (W := wr.drew) (T := 3) (cs := #[.int .i64 x]) intE rfl (.tmp 78) (.tmp 87) rfl rfl HROW.out (.int .i64 x) rfl wr.drew.heap.size 1 rfl rfl rfl (by intro q hq; simp [Value.cells] at hq; subst hq; rfl) (by rw [List.length_map, HPLN.out]; unfold maxLen; omega) (by rw [List.length_map, HPLN.out]; omega) ?_; intro g' n' c' wB hstB; have hstB := (hstB.pick (ρ := [aOwn 23 1 (.slice (some ⟨gn, 0, none⟩) rows.length rows.length) ((q.map Prod.fst).map Ll.slV), aOwn 3 1 (.slice (some ⟨g', 0, none⟩) n' c') ((Pk.pick fs row).map Ll.iV ++ [.int .i64 x]), aAll ((q.eraseIdx k).map Pk.aRow), aCel gO 36 (Pk.outA (Pk.ofP rows bb) (.slice (some ⟨gn, 0, none⟩) rows.length rows.length) (.slice at1 nt ct)), aOwn 3 1 (.slice (some ⟨gf, 0, none⟩) nf cf2) ((fs ++ [bb]).map Pk.fV), aCel (w.heap.size + 1) 36 Try.zeroCells36, aCel w.heap.size 25 #[.slice (some ⟨b, off, none⟩) rows.length cap, .slice at1 nt ct]]) [2, 0, 1, 3, 4, 5, 6] 7 rfl rfl); obtain ⟨r1, r2⟩ := (show St w wB (aOwn 23 1 (.slice (some ⟨gn, 0, none⟩) rows.length rows.length) ((q.map Prod.fst).map Ll.slV) :: _) from hstB).cellOwn (f := Ll.slV) (fun _ => rfl) k (by rw [List.length_map]; exact HQK.out) (none, 0, 0); have o0b := (hstB.nth 3 rfl).celAt (i := 256) (Pk.outA_next HOL.out); have z0b : wB.cell? ⟨b, off + k * 256 + bb, none⟩ = some (.int .i16 x) := (HZW.out _ hstB.bel); have y0b := (hstB.at2 6 rfl).1; have hstC := hstB.setOwn (f := Ll.slV) (fun _ => rfl) k (some ⟨g', 0, none⟩, n', c'); have o0c := (hstC.nth 3 rfl).celAt (i := 256) (Pk.outA_next HOL.out); have z0c : (wB.setCell ⟨gn, k, none⟩ (Ll.slV (some ⟨g', 0, none⟩, n', c'))).cell? ⟨b, off + k * 256 + bb, none⟩ = some (.int .i16 x) := (HZW.out _ hstC.bel); have y0c := (hstC.at2 6 rfl).1; have HSTC := Lib.hid hstC; clear hstB hstC)
                refine hK.out _ _ ?_ (fun hHeld => ?_)
                · (try dsimp only); (first | exact ⟨o0, z0, y0⟩ | exact ⟨o0a, z0a, y0a⟩ | exact ⟨o0b, z0b, y0b⟩ | exact ⟨o0c, z0c, y0c⟩)
                clear hK K
                try simp only [List.getElem_toArray, List.getElem_cons_zero, List.getElem_cons_succ, Act.put, List.setIfInBounds_toArray, List.set_cons_zero, List.set_cons_succ]
                refine wpAnyH_take (i := 18) (v := ?_) rfl (by kernel_rfl) (by kernel_rfl) (by kernel_rfl) (fun _ _ _ h => h) (Or.inl ⟨by rfl, ?_⟩) (by assumption) ?_
                rotate_left; focus (intro w hSw; (try dsimp only at hSw); go_simp; try (with_reducible rfl); done)
                try simp only [List.getElem_toArray, List.getElem_cons_zero, List.getElem_cons_succ, Act.put, List.setIfInBounds_toArray, List.set_cons_zero, List.set_cons_succ]
                refine wpAnyH_ready (rs := [19]) (by kernel_rfl) (by simp) ?_
                refine AllReadyH.cons rfl (fun K hK => ?_) AllReadyH.nil
                go_simp
                refine hK.out _ _ ?_ (fun hHeld => ?_)
                · (try dsimp only); (first | exact ⟨o0, z0, y0⟩ | exact ⟨o0a, z0a, y0a⟩ | exact ⟨o0b, z0b, y0b⟩ | exact ⟨o0c, z0c, y0c⟩)
                clear hK K
                try simp only [List.getElem_toArray, List.getElem_cons_zero, List.getElem_cons_succ, Act.put, List.setIfInBounds_toArray, List.set_cons_zero, List.set_cons_succ]
                refine wpAnyH_done (by kernel_rfl) ?_ _
                (go_wp2; go_roundg (rows.length - (k + 1)); (case measure => have := HGK2.out; omega); (case rel => exact ⟨k + 1, q.set k ((some ⟨g', 0, none⟩, n', c'), Pk.pick fs row ++ [x]), by omega, rfl, by go_num, Lib.hid (by rw [List.map_set, HQ.out, HX.out]; exact HNS.out), HEND.out _ _ _ _ HSTC.out⟩))
              · skip
                go_simp
                refine hK.out _ _ ?_ (fun hHeld => ?_)
                · (try dsimp only); (first | exact ⟨o0, z0, y0⟩ | exact ⟨o0a, z0a, y0a⟩ | exact ⟨o0b, z0b, y0b⟩ | exact ⟨o0c, z0c, y0c⟩)
                clear hK K
                try simp only [List.getElem_toArray, List.getElem_cons_zero, List.getElem_cons_succ, Act.put, List.setIfInBounds_toArray, List.set_cons_zero, List.set_cons_succ]
                refine wpAnyH_ready (rs := [7]) (by kernel_rfl) (by simp) ?_
                refine AllReadyH.cons rfl (fun K hK => ?_) (AllReadyH.nil)
                go_simp
                refine hK.out _ _ ?_ (fun hHeld => ?_)
                · (try dsimp only); (first | exact ⟨o0, z0, y0⟩ | exact ⟨o0a, z0a, y0a⟩ | exact ⟨o0b, z0b, y0b⟩ | exact ⟨o0c, z0c, y0c⟩)
                clear hK K
                try simp only [List.getElem_toArray, List.getElem_cons_zero, List.getElem_cons_succ, Act.put, List.setIfInBounds_toArray, List.set_cons_zero, List.set_cons_succ]
                refine wpAnyH_ready (rs := [17]) (by kernel_rfl) (by simp) ?_
                refine AllReadyH.cons rfl (fun K hK => ?_) AllReadyH.nil
                (refine St.step1n (W := wr.drew) (T := 3) (cs := #[.int .i64 x]) intE rfl (.tmp 78) (.tmp 87) rfl rfl HROW.out (.int .i64 x) rfl wr.drew.heap.size 1 rfl rfl rfl (by intro q hq; simp [Value.cells] at hq; subst hq; rfl) (by rw [List.length_map, HPLN.out]; unfold maxLen; omega) (by rw [List.length_map, HPLN.out]; omega) ?_; intro g' n' c' wB hstB; have hstB := (hstB.pick (ρ := [aOwn 23 1 (.slice (some ⟨gn, 0, none⟩) rows.length rows.length) ((q.map Prod.fst).map Ll.slV), aOwn 3 1 (.slice (some ⟨g', 0, none⟩) n' c') ((Pk.pick fs row).map Ll.iV ++ [.int .i64 x]), aAll ((q.eraseIdx k).map Pk.aRow), aCel gO 36 (Pk.outA (Pk.ofP rows bb) (.slice (some ⟨gn, 0, none⟩) rows.length rows.length) (.slice at1 nt ct)), aOwn 3 1 (.slice (some ⟨gf, 0, none⟩) nf cf2) ((fs ++ [bb]).map Pk.fV), aCel (w.heap.size + 1) 36 Try.zeroCells36, aCel w.heap.size 25 #[.slice (some ⟨b, off, none⟩) rows.length cap, .slice at1 nt ct]]) [2, 0, 1, 3, 4, 5, 6] 7 rfl rfl); obtain ⟨r1, r2⟩ := (show St w wB (aOwn 23 1 (.slice (some ⟨gn, 0, none⟩) rows.length rows.length) ((q.map Prod.fst).map Ll.slV) :: _) from hstB).cellOwn (f := Ll.slV) (fun _ => rfl) k (by rw [List.length_map]; exact HQK.out) (none, 0, 0); have o0b := (hstB.nth 3 rfl).celAt (i := 256) (Pk.outA_next HOL.out); have z0b : wB.cell? ⟨b, off + k * 256 + bb, none⟩ = some (.int .i16 x) := (HZW.out _ hstB.bel); have y0b := (hstB.at2 6 rfl).1; have hstC := hstB.setOwn (f := Ll.slV) (fun _ => rfl) k (some ⟨g', 0, none⟩, n', c'); have o0c := (hstC.nth 3 rfl).celAt (i := 256) (Pk.outA_next HOL.out); have z0c : (wB.setCell ⟨gn, k, none⟩ (Ll.slV (some ⟨g', 0, none⟩, n', c'))).cell? ⟨b, off + k * 256 + bb, none⟩ = some (.int .i16 x) := (HZW.out _ hstC.bel); have y0c := (hstC.at2 6 rfl).1; have HSTC := Lib.hid hstC; clear hstB hstC)
                refine hK.out _ _ ?_ (fun hHeld => ?_)
                · (try dsimp only); (first | exact ⟨o0, z0, y0⟩ | exact ⟨o0a, z0a, y0a⟩ | exact ⟨o0b, z0b, y0b⟩ | exact ⟨o0c, z0c, y0c⟩)
                clear hK K
                try simp only [List.getElem_toArray, List.getElem_cons_zero, List.getElem_cons_succ, Act.put, List.setIfInBounds_toArray, List.set_cons_zero, List.set_cons_succ]
                refine wpAnyH_take (i := 18) (v := ?_) rfl (by kernel_rfl) (by kernel_rfl) (by kernel_rfl) (fun _ _ _ h => h) (Or.inl ⟨by rfl, ?_⟩) (by assumption) ?_
                rotate_left; focus (intro w hSw; (try dsimp only at hSw); go_simp; try (with_reducible rfl); done)
                try simp only [List.getElem_toArray, List.getElem_cons_zero, List.getElem_cons_succ, Act.put, List.setIfInBounds_toArray, List.set_cons_zero, List.set_cons_succ]
                refine wpAnyH_ready (rs := [19]) (by kernel_rfl) (by simp) ?_
                refine AllReadyH.cons rfl (fun K hK => ?_) AllReadyH.nil
                go_simp
                refine hK.out _ _ ?_ (fun hHeld => ?_)
                · (try dsimp only); (first | exact ⟨o0, z0, y0⟩ | exact ⟨o0a, z0a, y0a⟩ | exact ⟨o0b, z0b, y0b⟩ | exact ⟨o0c, z0c, y0c⟩)
                clear hK K
                try simp only [List.getElem_toArray, List.getElem_cons_zero, List.getElem_cons_succ, Act.put, List.setIfInBounds_toArray, List.set_cons_zero, List.set_cons_succ]
                refine wpAnyH_done (by kernel_rfl) ?_ _
                (go_wp2; go_roundg (rows.length - (k + 1)); (case measure => have := HGK2.out; omega); (case rel => exact ⟨k + 1, q.set k ((some ⟨g', 0, none⟩, n', c'), Pk.pick fs row ++ [x]), by omega, rfl, by go_num, Lib.hid (by rw [List.map_set, HQ.out, HX.out]; exact HNS.out), HEND.out _ _ _ _ HSTC.out⟩))
            · obtain rfl : k = rows.length := by omega
              have hq := HQ.out
              rw [Pk.nxK_all] at hq
              have HQ2 := Lib.hid hq
              have HST := Lib.hid hst
              have o0 := (hst.nth 0 rfl).celAt (i := bb) (Pk.outA_get (by rw [HOL.out]; exact hlt))
              have o1 := (hst.nth 0 rfl).celFree bb
              have y1 := (hst.at2 5 rfl).1
              have hm : (fs.length : Int) % 256 = fs.length := by omega
              have HRN := Lib.hid (Pk.run_new (rows := rows) (b := bb) (by rw [HFS.out]; exact HPL.out))
              clear hq hst HQ
              go_wp2
              go_roundg (256 - (bb + 1))
              case measure => have := HGK.out; omega
              case rel =>
                refine ⟨bb + 1, q, _, by omega, rfl, by go_num, rfl, Lib.hid (by rw [HRN.out, HFS.out]; exact HQ2.out), ?_⟩
                have h1 := HST.out.setCel bb (.int .u8 (fs.length : Int))
                have hof := HOF.out
                rw [HFS.out, HPL.out] at hof
                rw [Pk.outA_set (by rw [HOL.out]; exact hlt), hof] at h1
                rw [HRN.out, HFS.out]
                exact h1
        · have hbe : ((pl : Int) == (fs.length : Int)) = false := by rw [beq_eq_false_iff_ne]; omega
          have HRO := Lib.hid (Pk.run_old (rows := rows) (b := bb) (by rw [HFS.out, HPL.out]; exact hp))
          have HST := Lib.hid hst
          have o0 := (hst.nth 0 rfl).celAt (i := bb) (Pk.outA_get (by rw [HOL.out]; exact hlt))
          have o1 := (hst.nth 0 rfl).celFree bb
          have hm : (pl : Int) % 256 = pl := by omega
          clear hst hp
          go_wp2
          go_roundg (256 - (bb + 1))
          case measure => have := HGK.out; omega
          case rel =>
            refine ⟨bb + 1, q, _, by omega, rfl, by go_num, rfl, Lib.hid (by rw [HRO.out, HFS.out]; exact HQ.out), ?_⟩
            have h1 := HST.out.setCel bb (.int .u8 (pl : Int))
            have hof := HOF.out
            rw [HFS.out, HPL.out] at hof
            rw [Pk.outA_set (by rw [HOL.out]; exact hlt), hof] at h1
            rw [HRO.out, HFS.out]
            exact h1
    · obtain rfl : bb = 256 := by omega
      have hol := Pk.ofP_len (rows := rows) (Nat.le_refl 256)
      have HST := Lib.hid hst
      have HZP := Lib.hid (hst.pick (ρ := [aCel (w.heap.size + 1) 36 Try.zeroCells36, aOwn 23 1 (.slice (some ⟨gn, 0, none⟩) rows.length rows.length) ((q.map Prod.fst).map Ll.slV), aAll (q.map Pk.aRow)]) [4, 2, 3] 6 rfl rfl)
      have HS2 := Lib.hid (show (Pk.outA (Pk.ofP rows 256) (.slice (some ⟨gn, 0, none⟩) rows.length rows.length) (.slice at1 nt ct)).size = 258 from Pk.outA_size hol)
      clear hst hol
      go_wp2_with (first | (refine St.rowIn rfl 36 (.tmp 3) rfl gO rfl _ HST.out 0 rfl Try.underlying36 rfl (by rw [HS2.out]; exact pkInfo) ?_) | (refine St.rowOp rfl 36 (.tmp 2) (.tmp 95) rfl (w.heap.size + 1) _ rfl rfl HZP.out (by rw [HS2.out]; exact pkInfo) (by rw [HS2.out, HZ.out]) (Pk.outA_one _ _ _ rfl rfl) ?_; intro w9 hst9; have HST9 := Lib.hid hst9; clear hst9 HST HZP))
      refine bodyPost_ret (results_row rfl _ _ (w.heap.size + 1) 36 _ _ rfl (HST9.out.heapAt 0 rfl) Try.underlying36 rfl (by rw [HS2.out]; exact pkInfo)) rfl ?_
      exact ⟨gn, q, rfl, HQ, HST9.out.pick [1, 2] 3 rfl rfl⟩
end Go.Proofs.Ytbpjmdemmmdnbaa
