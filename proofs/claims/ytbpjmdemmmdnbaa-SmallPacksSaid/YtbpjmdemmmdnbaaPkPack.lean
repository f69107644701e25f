/-
  Pack of package small: what it computes.
-/
import Derived.Test.YtbpjmdemmmdnbaaPkN
import Derived.Test.YtbpjmdemmmdnbaaAllAt
import Derived.Test.YtbpjmdemmmdnbaaDfa
import Derived.Test.YtbpjmdemmmdnbaaClone
import Derived.Test.YtbpjmdemmmdnbaaDfaTag
import Derived.Test.YtbpjmdemmmdnbaaSepRow
import Derived.Test.YtbpjmdemmmdnbaaLlEq
import Derived.Maps.OwnOps
import Derived.Test.YtbpjmdemmmdnbaaDfaRun
namespace Go.Proofs.Ytbpjmdemmmdnbaa
set_option linter.unusedVariables false
set_option linter.unusedSimpArgs false
open Go.ChangeShapes Go.WideShapes Go.ChangeAt Go.RowKit

theorem pkInfo : (Try.prog.info? 36).map (·.size) = some 258 := by kernel_rfl

set_option maxRecDepth 100000 in
set_option maxHeartbeats 1600000 in
theorem pack_bad (v : Value) (rows : List (List Int)) (tags : List Int) (w : World) (hd : DfaAt w v rows tags) (he : Aut.err rows tags ≠ 0) :
    Calls Try.prog 12 #[v] w fun e w' => e = .returned (.tuple #[.agg Try.zeroCells36, .int .i64 (Aut.err rows tags)]) ∧ Below w.heap.size w w' := by
  obtain ⟨v0, v1, rfl, -, -⟩ := id hd
  have HC := Lib.hid (fun (w' : World) (hb : Below w.heap.size w w') => dfaCheck_any _ rows tags w' (hd.below hb))
  generalize Aut.err rows tags = E at *
  have hE : (E != 0) = true := by rw [bne_iff_ne]; exact he
  have hst := ((St.init w).alloc #[v0, v1] 25).alloc Try.zeroCells36 36
  simp only [World.size_alloc] at hst
  have HST := Lib.hid hst
  clear hd he hst
  go_enter Try.func12, Try.ntmps12
  go_wp2_with (fail)
  go_at_call 33
  refine (HC.out _ HST.out.bel).mono ?_
  rintro e w1 ⟨rfl, hb1⟩
  have hst := HST.out.call hb1
  have HST := Lib.hid hst
  have hg := hst.heapAt 0 rfl
  clear hb1 hst
  have hz : (Try.zeroCells36).size = 258 := by kernel_rfl
  have HZ := Lib.hid hz
  have h1 : (Try.zeroCells36).all (·.oneCell') = true := by kernel_rfl
  have H1 := Lib.hid h1
  clear hz h1
  go_wp2_with (refine wpList_store_row rfl 36 (.tmp 2) (.tmp 19) rfl (w.heap.size + 1) _ rfl rfl 36 _ hg (by rw [HZ.out]; exact pkInfo) rfl H1.out ?_)

  refine bodyPost_ret (results_row_tmp rfl _ _ (w.heap.size + 1) 36 _ _ rfl ((HST.out.setRow _).heapAt 0 rfl) Try.underlying36 rfl (by rw [HZ.out]; exact pkInfo)) rfl ?_
  exact ⟨rfl, (HST.out.setRow _).bel⟩
def Pk.aRow (x : Ll.SV × List Int) : Asrt := aOwn 3 1 (Ll.slV x.1) (x.2.map Ll.iV)
def RetPk (rows : List (List Int)) (tags : List Int) (w : World) (e : Ending) (w' : World) : Prop := ∃ (gn : Nat) (vt : Value) (q : List (Ll.SV × List Int)), e = .returned (.tuple #[.agg (Pk.outA (Pk.ofP rows 256) (.slice (some ⟨gn, 0, none⟩) rows.length rows.length) vt), .int .i64 0]) ∧ Hid (q.map Prod.snd = Pk.nx rows (Pk.run rows 256).1) ∧
  St w w' [aOwn 23 1 (.slice (some ⟨gn, 0, none⟩) rows.length rows.length) ((q.map Prod.fst).map Ll.slV), aAll (q.map Pk.aRow), aOwn 3 1 vt (tags.map (Value.int .i64))]
theorem Pk.outA_put (l : List Int) (x0 y0 x y : Value) {n : Nat} (hn : l.length = n) : ((Pk.outA l x0 y0).setIfInBounds n x).setIfInBounds (n + 1) y = Pk.outA l x y := by
  subst hn
  apply Array.toList_inj.1
  simp only [Array.toList_setIfInBounds, Pk.outA_list]
  rw [List.set_append_right _ _ (by simp), List.set_append_right _ _ (by simp)]
  simp
theorem Pk.outA_mk (x y : Value) : (Try.zeroCells36.setIfInBounds 256 x).setIfInBounds 257 y = Pk.outA (List.replicate 256 0) x y := by
  have h : Try.zeroCells36 = Pk.outA (List.replicate 256 0) (.slice none 0 0) (.slice none 0 0) := by kernel_rfl
  rw [h]
  exact Pk.outA_put _ _ _ x y List.length_replicate
theorem Pk.outA_one (l : List Int) (x y : Value) (hx : x.oneCell' = true) (hy : y.oneCell' = true) : (Pk.outA l x y).all (·.oneCell') = true := by
  rw [← Array.all_toList, Pk.outA_list, List.all_append, Bool.and_eq_true]
  refine ⟨?_, by simp only [List.all_cons, List.all_nil, Bool.and_true, hx, hy]⟩
  rw [List.all_map]
  exact List.all_eq_true.2 (fun _ _ => rfl)
abbrev Pk.base (S gO gn cv b off cap gm n : Nat) (av : Option Addr) (v1 : Value) (nr : Nat) (tags of : List Int) (q : List (Ll.SV × List Int)) (D : DataW Unit) : List Asrt :=
  [aCel gO 36 (Pk.outA of (.slice (some ⟨gn, 0, none⟩) nr nr) (.slice av tags.length cv)), aMap 100 3 gm n D, aOwn 23 1 (.slice (some ⟨gn, 0, none⟩) nr nr) ((q.map Prod.fst).map Ll.slV), aAll (q.map Pk.aRow), aOwn 3 1 (.slice av tags.length cv) (tags.map (Value.int .i64)), aCel (S + 1) 36 Try.zeroCells36, aCel S 25 #[.slice (some ⟨b, off, none⟩) nr cap, v1]]
def Pk.keyV (c : List Int) : Value := .agg (c.map (Value.int .i16)).toArray
def Pk.colA (c : List Int) : Array Value := (c.map (Value.int .i16)).toArray
theorem Pk.keyV_inj (a b : List Int) (h : Pk.keyV a = Pk.keyV b) : a = b := by
  simp only [Pk.keyV, Value.agg.injEq] at h
  have h2 := congrArg Array.toList h
  have h3 := congrArg (List.map (fun v : Value => match v with | .int _ n => n | _ => 0)) h2
  simpa [Function.comp_def] using h3
theorem Pk.colA_zero : Pk.colA (List.replicate 200 0) = Try.zeroCells100 := by kernel_rfl
theorem Pk.row_one (l : List Int) : ((l.map (Value.int .i16)).toArray).all (·.oneCell') = true := by
  rw [← Array.all_toList, List.all_map]
  exact List.all_eq_true.2 (fun _ _ => rfl)
theorem Pk.row_at {l : List Int} {i : Nat} (hi : i < l.length) : ((l.map (Value.int .i16)).toArray)[i]? = some (.int .i16 (l.getD i 0)) := by
  rw [List.getElem?_toArray, List.getElem?_map, List.getElem?_eq_getElem hi]
  simp [List.getD, List.getElem?_eq_getElem hi]
theorem Pk.colA_set (l : List Int) (k : Nat) (x : Int) : (Pk.colA l).setIfInBounds k (.int .i16 x) = Pk.colA (l.set k x) := by
  apply Array.toList_inj.1
  simp [Pk.colA, List.map_set]
theorem Pk.akey : WideMaps.ArrKey Try.prog 100 90 200 := ⟨Try.underlying100, by kernel_rfl, by kernel_rfl, by kernel_rfl⟩
theorem Pk.tsz : ∃ m, Try.prog.types.size = m + 1 := ⟨Try.prog.types.size - 1, by kernel_rfl⟩
theorem Pk.zeroE (w : World) : (zeroValue 3).run Try.prog w = .ok (.int .i64 0) w := by kernel_rfl
/-- What the map tells, and the rows, when b columns are seen. -/
structure Pk.Seen (rows : List (List Int)) (bb : Nat) (q : List (Ll.SV × List Int)) (n : Nat) (D : DataW Unit) : Prop where
  q : q.map Prod.snd = Pk.nx rows (Pk.run rows bb).1
  tells : Tells 100 Pk.keyV D (Pk.tab rows (Pk.run rows bb).1)
  size : Maps.size D = (Pk.run rows bb).1.length
  n : n ≤ bb
theorem Pk.share {P A : Nat → Option Addr → Nat → Nat → World → Prop} {G : Prop} (h1 : (∀ a b c d W, A a b c d W → P a b c d W) → G) (h2 : ∀ a b c d W, A a b c d W → P a b c d W) : G := h1 h2

set_option maxRecDepth 100000 in
set_option maxHeartbeats 4000000 in
theorem pack_ok (v : Value) (rows : List (List Int)) (tags : List Int) (w : World) (hd : DfaAt w v rows tags) (he : Aut.err rows tags = 0) :
    Calls Try.prog 12 #[v] w (RetPk rows tags w) := by
  obtain ⟨v0, v1, rfl, hr, ht⟩ := id hd
  have HC := Lib.hid (fun (w' : World) (hb : Below w.heap.size w w') => dfaCheck_any _ rows tags w' (hd.below hb))
  rw [he] at HC
  obtain ⟨h200, hpos, htl, hgood⟩ := Aut.err_good rows tags he
  have HCL := Lib.hid (fun (w' : World) (hb : Below w.heap.size w w') => clone_any (l := tags) w' (ht.call hb (fun _ _ h => h)) (by rw [htl]; omega))
  obtain ⟨ao, b, off, cap, rfl, c1, c2, c3, c4, c5⟩ := slRows hr
  obtain ⟨rfl, hb⟩ := c3 hpos
  have C4 := Lib.hid c4; have C5 := Lib.hid c5; have HG := Lib.hid hgood; have HTL := Lib.hid htl
  have hnl : (rows.length : Int) ≤ 200 := by omega
  have hn0 : (0 : Int) < rows.length := by omega
  clear hr ht hd he c3 c4 c5 hgood c2 htl
  have hst := ((St.init w).alloc #[.slice (some ⟨b, off, none⟩) rows.length cap, v1] 25).alloc Try.zeroCells36 36
  simp only [World.size_alloc] at hst
  have HST := Lib.hid hst
  clear hst
  go_enter Try.func12, Try.ntmps12
  go_wp2_with (fail)
  go_at_call 33
  refine (HC.out _ HST.out.bel).mono ?_
  rintro e w1 ⟨rfl, hb1⟩
  have HST := Lib.hid (HST.out.call hb1).drew
  have x0 := (HST.out.at2 1 rfl).1
  have x1 := (HST.out.at2 1 rfl).2
  have HN := Lib.hid (St.init w1.drew)
  clear hb1 HC
  have HZ := Lib.hid (show (Try.zeroCells36).size = 258 by kernel_rfl)
  go_wp2_with (fail)
  refine Pk.share (P := ?PSh) (A := fun gn av cv gO W => St w W [aCel gO 36 (Pk.outA (List.replicate 256 0) (.slice (some ⟨gn, 0, none⟩) rows.length rows.length) (.slice av tags.length cv)), aOwn 23 1 (.slice (some ⟨gn, 0, none⟩) rows.length rows.length) (List.replicate rows.length (.slice none 0 0)), aOwn 3 1 (.slice av tags.length cv) (tags.map (Value.int .i64)), aCel (w.heap.size + 1) 36 Try.zeroCells36, aCel w.heap.size 25 #[.slice (some ⟨b, off, none⟩) rows.length cap, v1]]) (fun REST => ?h1) ?h2
  case h1 =>
    refine wp_region_held_drew (S := (fun w' => w'.cell? ⟨w.heap.size, 0, none⟩ = some (.slice (some ⟨b, off, none⟩) rows.length cap) ∧ w'.cell? ⟨w.heap.size, 1, none⟩ = some v1)) (by kernel_rfl) ?_ (fun hHeld => ?_)
    · (try dsimp only); (exact ⟨bkeep HN.out.bel x0, bkeep HN.out.bel x1⟩)

    refine wpAnyH_take (i := 0) (v := ?_) rfl (by kernel_rfl) (by kernel_rfl) (by kernel_rfl) (fun _ _ _ h => h) (Or.inl ⟨by rfl, ?_⟩) (by assumption) ?_
    rotate_left; focus (intro w hSw; (try dsimp only at hSw); go_simp; try (with_reducible rfl); done)
    try simp only [List.getElem_toArray, List.getElem_cons_zero, List.getElem_cons_succ, Act.put, List.setIfInBounds_toArray, List.set_cons_zero, List.set_cons_succ]
    refine wpAnyH_take (i := 1) (v := ?_) rfl (by kernel_rfl) (by kernel_rfl) (by kernel_rfl) (fun _ _ _ h => h) (Or.inl ⟨by rfl, ?_⟩) (by assumption) ?_
    rotate_left; focus (intro w hSw; (try dsimp only at hSw); go_simp; try (with_reducible rfl); done)
    try simp only [List.getElem_toArray, List.getElem_cons_zero, List.getElem_cons_succ, Act.put, List.setIfInBounds_toArray, List.set_cons_zero, List.set_cons_succ]
    refine wpAnyH_take (i := 2) (v := ?_) rfl (by kernel_rfl) (by kernel_rfl) (by kernel_rfl) (fun _ _ _ h => h) (Or.inl ⟨by rfl, ?_⟩) (by assumption) ?_
    rotate_left; focus (intro w hSw; (try dsimp only at hSw); go_simp; try (with_reducible rfl); done)
    try simp only [List.getElem_toArray, List.getElem_cons_zero, List.getElem_cons_succ, Act.put, List.setIfInBounds_toArray, List.set_cons_zero, List.set_cons_succ]
    refine wpAnyH_take (i := 4) (v := ?_) rfl (by kernel_rfl) (by kernel_rfl) (by kernel_rfl) (fun _ _ _ h => h) (Or.inl ⟨by rfl, ?_⟩) (by assumption) ?_
    rotate_left; focus (intro w hSw; (try dsimp only at hSw); go_simp; try (with_reducible rfl); done)
    try simp only [List.getElem_toArray, List.getElem_cons_zero, List.getElem_cons_succ, Act.put, List.setIfInBounds_toArray, List.set_cons_zero, List.set_cons_succ]
    refine wpAnyH_take (i := 5) (v := ?_) rfl (by kernel_rfl) (by kernel_rfl) (by kernel_rfl) (fun _ _ _ h => h) (Or.inl ⟨by rfl, ?_⟩) (by assumption) ?_
    rotate_left; focus (intro w hSw; (try dsimp only at hSw); go_simp; try (with_reducible rfl); done)
    try simp only [List.getElem_toArray, List.getElem_cons_zero, List.getElem_cons_succ, Act.put, List.setIfInBounds_toArray, List.set_cons_zero, List.set_cons_succ]
    refine wpAnyH_ready (rs := [3, 6, 8]) (by kernel_rfl) (by simp) ?_
    refine AllReadyH.cons rfl (fun K hK => ?_) (AllReadyH.cons rfl (fun K hK => ?_) (AllReadyH.cons rfl (fun K hK => ?_) (AllReadyH.nil)))
    · skip
      (first | (refine St.stepMake rfl (.tmp 23) rfl Try.underlying34 (z := .slice none 0 0) (bytes := 24) (by kernel_rfl) rfl HN.out rows.length rfl (by omega) (by decide) ?_; intro gn w8 hst8; have HN := Lib.hid hst8; clear hst8) | (go_at_call 40; refine (HCL.out _ (HST.out.bel.trans (HN.out.bel.mono HST.out.bel.size))).mono ?_; rintro e w8 ⟨vt, rfl, hot, hbt⟩; obtain ⟨av, cv, hv⟩ := hot.isLen; rw [List.length_map] at hv; subst hv; have HN := Lib.hid (HN.out.pushOwn hbt hot); clear hbt hot) | ((first | (have HP := Lib.hid (HN.out.pick (ρ := [aCel gO 36 Try.zeroCells36, aOwn 23 1 (.slice (some ⟨gn, 0, none⟩) rows.length rows.length) (List.replicate rows.length (.slice none 0 0)), aOwn 3 1 (.slice av tags.length cv) (tags.map (Value.int .i64))]) [0, 1, 2] 3 rfl rfl)) | (have HP := Lib.hid (HN.out.pick (ρ := [aCel gO 36 Try.zeroCells36, aOwn 23 1 (.slice (some ⟨gn, 0, none⟩) rows.length rows.length) (List.replicate rows.length (.slice none 0 0)), aOwn 3 1 (.slice av tags.length cv) (tags.map (Value.int .i64))]) [0, 2, 1] 3 rfl rfl)) | (have HP := Lib.hid (HN.out.pick (ρ := [aCel gO 36 Try.zeroCells36, aOwn 23 1 (.slice (some ⟨gn, 0, none⟩) rows.length rows.length) (List.replicate rows.length (.slice none 0 0)), aOwn 3 1 (.slice av tags.length cv) (tags.map (Value.int .i64))]) [1, 0, 2] 3 rfl rfl)) | (have HP := Lib.hid (HN.out.pick (ρ := [aCel gO 36 Try.zeroCells36, aOwn 23 1 (.slice (some ⟨gn, 0, none⟩) rows.length rows.length) (List.replicate rows.length (.slice none 0 0)), aOwn 3 1 (.slice av tags.length cv) (tags.map (Value.int .i64))]) [1, 2, 0] 3 rfl rfl)) | (have HP := Lib.hid (HN.out.pick (ρ := [aCel gO 36 Try.zeroCells36, aOwn 23 1 (.slice (some ⟨gn, 0, none⟩) rows.length rows.length) (List.replicate rows.length (.slice none 0 0)), aOwn 3 1 (.slice av tags.length cv) (tags.map (Value.int .i64))]) [2, 0, 1] 3 rfl rfl)) | (have HP := Lib.hid (HN.out.pick (ρ := [aCel gO 36 Try.zeroCells36, aOwn 23 1 (.slice (some ⟨gn, 0, none⟩) rows.length rows.length) (List.replicate rows.length (.slice none 0 0)), aOwn 3 1 (.slice av tags.length cv) (tags.map (Value.int .i64))]) [2, 1, 0] 3 rfl rfl))); refine St.stepRow rfl 36 (.tmp 5) (.tmp 28) rfl gO (Pk.outA (List.replicate 256 0) (.slice (some ⟨gn, 0, none⟩) rows.length rows.length) (.slice av tags.length cv)) rfl (congrArg Value.agg (Pk.outA_mk _ _)) HP.out (by rw [Pk.outA_size (by simp)]; exact pkInfo) (by rw [Pk.outA_size (by simp), HZ.out]) (Pk.outA_one _ _ _ rfl rfl) ?_; intro w8 hst8; have HN := Lib.hid hst8; clear hst8 HP)| (refine St.stepNew (T := 36) (cs := Try.zeroCells36) rfl (by intro u; kernel_rfl) HN.out ?_; intro gO w8 hst8; have HN := Lib.hid hst8; clear hst8))
      refine hK.out _ _ ?_ (fun hHeld => ?_)
      · (try dsimp only); (exact ⟨bkeep HN.out.bel x0, bkeep HN.out.bel x1⟩)
      clear hK K
      try simp only [List.getElem_toArray, List.getElem_cons_zero, List.getElem_cons_succ, Act.put, List.setIfInBounds_toArray, List.set_cons_zero, List.set_cons_succ]
      refine wpAnyH_ready (rs := [6, 8]) (by kernel_rfl) (by simp) ?_
      refine AllReadyH.cons rfl (fun K hK => ?_) (AllReadyH.cons rfl (fun K hK => ?_) (AllReadyH.nil))
      · skip
        go_simp
        (first | (refine St.stepMake rfl (.tmp 23) rfl Try.underlying34 (z := .slice none 0 0) (bytes := 24) (by kernel_rfl) rfl HN.out rows.length rfl (by omega) (by decide) ?_; intro gn w8 hst8; have HN := Lib.hid hst8; clear hst8) | (go_at_call 40; refine (HCL.out _ (HST.out.bel.trans (HN.out.bel.mono HST.out.bel.size))).mono ?_; rintro e w8 ⟨vt, rfl, hot, hbt⟩; obtain ⟨av, cv, hv⟩ := hot.isLen; rw [List.length_map] at hv; subst hv; have HN := Lib.hid (HN.out.pushOwn hbt hot); clear hbt hot) | ((first | (have HP := Lib.hid (HN.out.pick (ρ := [aCel gO 36 Try.zeroCells36, aOwn 23 1 (.slice (some ⟨gn, 0, none⟩) rows.length rows.length) (List.replicate rows.length (.slice none 0 0)), aOwn 3 1 (.slice av tags.length cv) (tags.map (Value.int .i64))]) [0, 1, 2] 3 rfl rfl)) | (have HP := Lib.hid (HN.out.pick (ρ := [aCel gO 36 Try.zeroCells36, aOwn 23 1 (.slice (some ⟨gn, 0, none⟩) rows.length rows.length) (List.replicate rows.length (.slice none 0 0)), aOwn 3 1 (.slice av tags.length cv) (tags.map (Value.int .i64))]) [0, 2, 1] 3 rfl rfl)) | (have HP := Lib.hid (HN.out.pick (ρ := [aCel gO 36 Try.zeroCells36, aOwn 23 1 (.slice (some ⟨gn, 0, none⟩) rows.length rows.length) (List.replicate rows.length (.slice none 0 0)), aOwn 3 1 (.slice av tags.length cv) (tags.map (Value.int .i64))]) [1, 0, 2] 3 rfl rfl)) | (have HP := Lib.hid (HN.out.pick (ρ := [aCel gO 36 Try.zeroCells36, aOwn 23 1 (.slice (some ⟨gn, 0, none⟩) rows.length rows.length) (List.replicate rows.length (.slice none 0 0)), aOwn 3 1 (.slice av tags.length cv) (tags.map (Value.int .i64))]) [1, 2, 0] 3 rfl rfl)) | (have HP := Lib.hid (HN.out.pick (ρ := [aCel gO 36 Try.zeroCells36, aOwn 23 1 (.slice (some ⟨gn, 0, none⟩) rows.length rows.length) (List.replicate rows.length (.slice none 0 0)), aOwn 3 1 (.slice av tags.length cv) (tags.map (Value.int .i64))]) [2, 0, 1] 3 rfl rfl)) | (have HP := Lib.hid (HN.out.pick (ρ := [aCel gO 36 Try.zeroCells36, aOwn 23 1 (.slice (some ⟨gn, 0, none⟩) rows.length rows.length) (List.replicate rows.length (.slice none 0 0)), aOwn 3 1 (.slice av tags.length cv) (tags.map (Value.int .i64))]) [2, 1, 0] 3 rfl rfl))); refine St.stepRow rfl 36 (.tmp 5) (.tmp 28) rfl gO (Pk.outA (List.replicate 256 0) (.slice (some ⟨gn, 0, none⟩) rows.length rows.length) (.slice av tags.length cv)) rfl (congrArg Value.agg (Pk.outA_mk _ _)) HP.out (by rw [Pk.outA_size (by simp)]; exact pkInfo) (by rw [Pk.outA_size (by simp), HZ.out]) (Pk.outA_one _ _ _ rfl rfl) ?_; intro w8 hst8; have HN := Lib.hid hst8; clear hst8 HP)| (refine St.stepNew (T := 36) (cs := Try.zeroCells36) rfl (by intro u; kernel_rfl) HN.out ?_; intro gO w8 hst8; have HN := Lib.hid hst8; clear hst8))
        refine hK.out _ _ ?_ (fun hHeld => ?_)
        · (try dsimp only); (exact ⟨bkeep HN.out.bel x0, bkeep HN.out.bel x1⟩)
        clear hK K
        try simp only [List.getElem_toArray, List.getElem_cons_zero, List.getElem_cons_succ, Act.put, List.setIfInBounds_toArray, List.set_cons_zero, List.set_cons_succ]
        refine wpAnyH_take (i := 7) (v := ?_) rfl (by kernel_rfl) (by kernel_rfl) (by kernel_rfl) (fun _ _ _ h => h) (Or.inl ⟨by rfl, ?_⟩) (by assumption) ?_
        rotate_left; focus (intro w hSw; (try dsimp only at hSw); go_simp; try (with_reducible rfl); done)
        try simp only [List.getElem_toArray, List.getElem_cons_zero, List.getElem_cons_succ, Act.put, List.setIfInBounds_toArray, List.set_cons_zero, List.set_cons_succ]
        refine wpAnyH_ready (rs := [8]) (by kernel_rfl) (by simp) ?_
        refine AllReadyH.cons rfl (fun K hK => ?_) (AllReadyH.nil)
        (first | (refine St.stepMake rfl (.tmp 23) rfl Try.underlying34 (z := .slice none 0 0) (bytes := 24) (by kernel_rfl) rfl HN.out rows.length rfl (by omega) (by decide) ?_; intro gn w8 hst8; have HN := Lib.hid hst8; clear hst8) | (go_at_call 40; refine (HCL.out _ (HST.out.bel.trans (HN.out.bel.mono HST.out.bel.size))).mono ?_; rintro e w8 ⟨vt, rfl, hot, hbt⟩; obtain ⟨av, cv, hv⟩ := hot.isLen; rw [List.length_map] at hv; subst hv; have HN := Lib.hid (HN.out.pushOwn hbt hot); clear hbt hot) | ((first | (have HP := Lib.hid (HN.out.pick (ρ := [aCel gO 36 Try.zeroCells36, aOwn 23 1 (.slice (some ⟨gn, 0, none⟩) rows.length rows.length) (List.replicate rows.length (.slice none 0 0)), aOwn 3 1 (.slice av tags.length cv) (tags.map (Value.int .i64))]) [0, 1, 2] 3 rfl rfl)) | (have HP := Lib.hid (HN.out.pick (ρ := [aCel gO 36 Try.zeroCells36, aOwn 23 1 (.slice (some ⟨gn, 0, none⟩) rows.length rows.length) (List.replicate rows.length (.slice none 0 0)), aOwn 3 1 (.slice av tags.length cv) (tags.map (Value.int .i64))]) [0, 2, 1] 3 rfl rfl)) | (have HP := Lib.hid (HN.out.pick (ρ := [aCel gO 36 Try.zeroCells36, aOwn 23 1 (.slice (some ⟨gn, 0, none⟩) rows.length rows.length) (List.replicate rows.length (.slice none 0 0)), aOwn 3 1 (.slice av tags.length cv) (tags.map (Value.int .i64))]) [1, 0, 2] 3 rfl rfl)) | (have HP := Lib.hid (HN.out.pick (ρ := [aCel gO 36 Try.zeroCells36, aOwn 23 1 (.slice (some ⟨gn, 0, none⟩) rows.length rows.length) (List.replicate rows.length (.slice none 0 0)), aOwn 3 1 (.slice av tags.length cv) (tags.map (Value.int .i64))]) [1, 2, 0] 3 rfl rfl)) | (have HP := Lib.hid (HN.out.pick (ρ := [aCel gO 36 Try.zeroCells36, aOwn 23 1 (.slice (some ⟨gn, 0, none⟩) rows.length rows.length) (List.replicate rows.length (.slice none 0 0)), aOwn 3 1 (.slice av tags.length cv) (tags.map (Value.int .i64))]) [2, 0, 1] 3 rfl rfl)) | (have HP := Lib.hid (HN.out.pick (ρ := [aCel gO 36 Try.zeroCells36, aOwn 23 1 (.slice (some ⟨gn, 0, none⟩) rows.length rows.length) (List.replicate rows.length (.slice none 0 0)), aOwn 3 1 (.slice av tags.length cv) (tags.map (Value.int .i64))]) [2, 1, 0] 3 rfl rfl))); refine St.stepRow rfl 36 (.tmp 5) (.tmp 28) rfl gO (Pk.outA (List.replicate 256 0) (.slice (some ⟨gn, 0, none⟩) rows.length rows.length) (.slice av tags.length cv)) rfl (congrArg Value.agg (Pk.outA_mk _ _)) HP.out (by rw [Pk.outA_size (by simp)]; exact pkInfo) (by rw [Pk.outA_size (by simp), HZ.out]) (Pk.outA_one _ _ _ rfl rfl) ?_; intro w8 hst8; have HN := Lib.hid hst8; clear hst8 HP)| (refine St.stepNew (T := 36) (cs := Try.zeroCells36) rfl (by intro u; kernel_rfl) HN.out ?_; intro gO w8 hst8; have HN := Lib.hid hst8; clear hst8))
        refine hK.out _ _ ?_ (fun hHeld => ?_)
        · (try dsimp only); (exact ⟨bkeep HN.out.bel x0, bkeep HN.out.bel x1⟩)
        clear hK K
        try simp only [List.getElem_toArray, List.getElem_cons_zero, List.getElem_cons_succ, Act.put, List.setIfInBounds_toArray, List.set_cons_zero, List.set_cons_succ]
        refine wpAnyH_ready (rs := [9]) (by kernel_rfl) (by simp) ?_
        refine AllReadyH.cons rfl (fun K hK => ?_) AllReadyH.nil
        (first | (refine St.stepMake rfl (.tmp 23) rfl Try.underlying34 (z := .slice none 0 0) (bytes := 24) (by kernel_rfl) rfl HN.out rows.length rfl (by omega) (by decide) ?_; intro gn w8 hst8; have HN := Lib.hid hst8; clear hst8) | (go_at_call 40; refine (HCL.out _ (HST.out.bel.trans (HN.out.bel.mono HST.out.bel.size))).mono ?_; rintro e w8 ⟨vt, rfl, hot, hbt⟩; obtain ⟨av, cv, hv⟩ := hot.isLen; rw [List.length_map] at hv; subst hv; have HN := Lib.hid (HN.out.pushOwn hbt hot); clear hbt hot) | ((first | (have HP := Lib.hid (HN.out.pick (ρ := [aCel gO 36 Try.zeroCells36, aOwn 23 1 (.slice (some ⟨gn, 0, none⟩) rows.length rows.length) (List.replicate rows.length (.slice none 0 0)), aOwn 3 1 (.slice av tags.length cv) (tags.map (Value.int .i64))]) [0, 1, 2] 3 rfl rfl)) | (have HP := Lib.hid (HN.out.pick (ρ := [aCel gO 36 Try.zeroCells36, aOwn 23 1 (.slice (some ⟨gn, 0, none⟩) rows.length rows.length) (List.replicate rows.length (.slice none 0 0)), aOwn 3 1 (.slice av tags.length cv) (tags.map (Value.int .i64))]) [0, 2, 1] 3 rfl rfl)) | (have HP := Lib.hid (HN.out.pick (ρ := [aCel gO 36 Try.zeroCells36, aOwn 23 1 (.slice (some ⟨gn, 0, none⟩) rows.length rows.length) (List.replicate rows.length (.slice none 0 0)), aOwn 3 1 (.slice av tags.length cv) (tags.map (Value.int .i64))]) [1, 0, 2] 3 rfl rfl)) | (have HP := Lib.hid (HN.out.pick (ρ := [aCel gO 36 Try.zeroCells36, aOwn 23 1 (.slice (some ⟨gn, 0, none⟩) rows.length rows.length) (List.replicate rows.length (.slice none 0 0)), aOwn 3 1 (.slice av tags.length cv) (tags.map (Value.int .i64))]) [1, 2, 0] 3 rfl rfl)) | (have HP := Lib.hid (HN.out.pick (ρ := [aCel gO 36 Try.zeroCells36, aOwn 23 1 (.slice (some ⟨gn, 0, none⟩) rows.length rows.length) (List.replicate rows.length (.slice none 0 0)), aOwn 3 1 (.slice av tags.length cv) (tags.map (Value.int .i64))]) [2, 0, 1] 3 rfl rfl)) | (have HP := Lib.hid (HN.out.pick (ρ := [aCel gO 36 Try.zeroCells36, aOwn 23 1 (.slice (some ⟨gn, 0, none⟩) rows.length rows.length) (List.replicate rows.length (.slice none 0 0)), aOwn 3 1 (.slice av tags.length cv) (tags.map (Value.int .i64))]) [2, 1, 0] 3 rfl rfl))); refine St.stepRow rfl 36 (.tmp 5) (.tmp 28) rfl gO (Pk.outA (List.replicate 256 0) (.slice (some ⟨gn, 0, none⟩) rows.length rows.length) (.slice av tags.length cv)) rfl (congrArg Value.agg (Pk.outA_mk _ _)) HP.out (by rw [Pk.outA_size (by simp)]; exact pkInfo) (by rw [Pk.outA_size (by simp), HZ.out]) (Pk.outA_one _ _ _ rfl rfl) ?_; intro w8 hst8; have HN := Lib.hid hst8; clear hst8 HP)| (refine St.stepNew (T := 36) (cs := Try.zeroCells36) rfl (by intro u; kernel_rfl) HN.out ?_; intro gO w8 hst8; have HN := Lib.hid hst8; clear hst8))
        refine hK.out _ _ ?_ (fun hHeld => ?_)
        · (try dsimp only); (exact ⟨bkeep HN.out.bel x0, bkeep HN.out.bel x1⟩)
        clear hK K
        try simp only [List.getElem_toArray, List.getElem_cons_zero, List.getElem_cons_succ, Act.put, List.setIfInBounds_toArray, List.set_cons_zero, List.set_cons_succ]
        refine wpAnyH_done (by kernel_rfl) ?_ _
        exact REST _ _ _ _ _ (HST.out.join HN.out)
      · skip
        (first | (refine St.stepMake rfl (.tmp 23) rfl Try.underlying34 (z := .slice none 0 0) (bytes := 24) (by kernel_rfl) rfl HN.out rows.length rfl (by omega) (by decide) ?_; intro gn w8 hst8; have HN := Lib.hid hst8; clear hst8) | (go_at_call 40; refine (HCL.out _ (HST.out.bel.trans (HN.out.bel.mono HST.out.bel.size))).mono ?_; rintro e w8 ⟨vt, rfl, hot, hbt⟩; obtain ⟨av, cv, hv⟩ := hot.isLen; rw [List.length_map] at hv; subst hv; have HN := Lib.hid (HN.out.pushOwn hbt hot); clear hbt hot) | ((first | (have HP := Lib.hid (HN.out.pick (ρ := [aCel gO 36 Try.zeroCells36, aOwn 23 1 (.slice (some ⟨gn, 0, none⟩) rows.length rows.length) (List.replicate rows.length (.slice none 0 0)), aOwn 3 1 (.slice av tags.length cv) (tags.map (Value.int .i64))]) [0, 1, 2] 3 rfl rfl)) | (have HP := Lib.hid (HN.out.pick (ρ := [aCel gO 36 Try.zeroCells36, aOwn 23 1 (.slice (some ⟨gn, 0, none⟩) rows.length rows.length) (List.replicate rows.length (.slice none 0 0)), aOwn 3 1 (.slice av tags.length cv) (tags.map (Value.int .i64))]) [0, 2, 1] 3 rfl rfl)) | (have HP := Lib.hid (HN.out.pick (ρ := [aCel gO 36 Try.zeroCells36, aOwn 23 1 (.slice (some ⟨gn, 0, none⟩) rows.length rows.length) (List.replicate rows.length (.slice none 0 0)), aOwn 3 1 (.slice av tags.length cv) (tags.map (Value.int .i64))]) [1, 0, 2] 3 rfl rfl)) | (have HP := Lib.hid (HN.out.pick (ρ := [aCel gO 36 Try.zeroCells36, aOwn 23 1 (.slice (some ⟨gn, 0, none⟩) rows.length rows.length) (List.replicate rows.length (.slice none 0 0)), aOwn 3 1 (.slice av tags.length cv) (tags.map (Value.int .i64))]) [1, 2, 0] 3 rfl rfl)) | (have HP := Lib.hid (HN.out.pick (ρ := [aCel gO 36 Try.zeroCells36, aOwn 23 1 (.slice (some ⟨gn, 0, none⟩) rows.length rows.length) (List.replicate rows.length (.slice none 0 0)), aOwn 3 1 (.slice av tags.length cv) (tags.map (Value.int .i64))]) [2, 0, 1] 3 rfl rfl)) | (have HP := Lib.hid (HN.out.pick (ρ := [aCel gO 36 Try.zeroCells36, aOwn 23 1 (.slice (some ⟨gn, 0, none⟩) rows.length rows.length) (List.replicate rows.length (.slice none 0 0)), aOwn 3 1 (.slice av tags.length cv) (tags.map (Value.int .i64))]) [2, 1, 0] 3 rfl rfl))); refine St.stepRow rfl 36 (.tmp 5) (.tmp 28) rfl gO (Pk.outA (List.replicate 256 0) (.slice (some ⟨gn, 0, none⟩) rows.length rows.length) (.slice av tags.length cv)) rfl (congrArg Value.agg (Pk.outA_mk _ _)) HP.out (by rw [Pk.outA_size (by simp)]; exact pkInfo) (by rw [Pk.outA_size (by simp), HZ.out]) (Pk.outA_one _ _ _ rfl rfl) ?_; intro w8 hst8; have HN := Lib.hid hst8; clear hst8 HP)| (refine St.stepNew (T := 36) (cs := Try.zeroCells36) rfl (by intro u; kernel_rfl) HN.out ?_; intro gO w8 hst8; have HN := Lib.hid hst8; clear hst8))
        refine hK.out _ _ ?_ (fun hHeld => ?_)
        · (try dsimp only); (exact ⟨bkeep HN.out.bel x0, bkeep HN.out.bel x1⟩)
        clear hK K
        try simp only [List.getElem_toArray, List.getElem_cons_zero, List.getElem_cons_succ, Act.put, List.setIfInBounds_toArray, List.set_cons_zero, List.set_cons_succ]
        refine wpAnyH_ready (rs := [6]) (by kernel_rfl) (by simp) ?_
        refine AllReadyH.cons rfl (fun K hK => ?_) (AllReadyH.nil)
        go_simp
        (first | (refine St.stepMake rfl (.tmp 23) rfl Try.underlying34 (z := .slice none 0 0) (bytes := 24) (by kernel_rfl) rfl HN.out rows.length rfl (by omega) (by decide) ?_; intro gn w8 hst8; have HN := Lib.hid hst8; clear hst8) | (go_at_call 40; refine (HCL.out _ (HST.out.bel.trans (HN.out.bel.mono HST.out.bel.size))).mono ?_; rintro e w8 ⟨vt, rfl, hot, hbt⟩; obtain ⟨av, cv, hv⟩ := hot.isLen; rw [List.length_map] at hv; subst hv; have HN := Lib.hid (HN.out.pushOwn hbt hot); clear hbt hot) | ((first | (have HP := Lib.hid (HN.out.pick (ρ := [aCel gO 36 Try.zeroCells36, aOwn 23 1 (.slice (some ⟨gn, 0, none⟩) rows.length rows.length) (List.replicate rows.length (.slice none 0 0)), aOwn 3 1 (.slice av tags.length cv) (tags.map (Value.int .i64))]) [0, 1, 2] 3 rfl rfl)) | (have HP := Lib.hid (HN.out.pick (ρ := [aCel gO 36 Try.zeroCells36, aOwn 23 1 (.slice (some ⟨gn, 0, none⟩) rows.length rows.length) (List.replicate rows.length (.slice none 0 0)), aOwn 3 1 (.slice av tags.length cv) (tags.map (Value.int .i64))]) [0, 2, 1] 3 rfl rfl)) | (have HP := Lib.hid (HN.out.pick (ρ := [aCel gO 36 Try.zeroCells36, aOwn 23 1 (.slice (some ⟨gn, 0, none⟩) rows.length rows.length) (List.replicate rows.length (.slice none 0 0)), aOwn 3 1 (.slice av tags.length cv) (tags.map (Value.int .i64))]) [1, 0, 2] 3 rfl rfl)) | (have HP := Lib.hid (HN.out.pick (ρ := [aCel gO 36 Try.zeroCells36, aOwn 23 1 (.slice (some ⟨gn, 0, none⟩) rows.length rows.length) (List.replicate rows.length (.slice none 0 0)), aOwn 3 1 (.slice av tags.length cv) (tags.map (Value.int .i64))]) [1, 2, 0] 3 rfl rfl)) | (have HP := Lib.hid (HN.out.pick (ρ := [aCel gO 36 Try.zeroCells36, aOwn 23 1 (.slice (some ⟨gn, 0, none⟩) rows.length rows.length) (List.replicate rows.length (.slice none 0 0)), aOwn 3 1 (.slice av tags.length cv) (tags.map (Value.int .i64))]) [2, 0, 1] 3 rfl rfl)) | (have HP := Lib.hid (HN.out.pick (ρ := [aCel gO 36 Try.zeroCells36, aOwn 23 1 (.slice (some ⟨gn, 0, none⟩) rows.length rows.length) (List.replicate rows.length (.slice none 0 0)), aOwn 3 1 (.slice av tags.length cv) (tags.map (Value.int .i64))]) [2, 1, 0] 3 rfl rfl))); refine St.stepRow rfl 36 (.tmp 5) (.tmp 28) rfl gO (Pk.outA (List.replicate 256 0) (.slice (some ⟨gn, 0, none⟩) rows.length rows.length) (.slice av tags.length cv)) rfl (congrArg Value.agg (Pk.outA_mk _ _)) HP.out (by rw [Pk.outA_size (by simp)]; exact pkInfo) (by rw [Pk.outA_size (by simp), HZ.out]) (Pk.outA_one _ _ _ rfl rfl) ?_; intro w8 hst8; have HN := Lib.hid hst8; clear hst8 HP)| (refine St.stepNew (T := 36) (cs := Try.zeroCells36) rfl (by intro u; kernel_rfl) HN.out ?_; intro gO w8 hst8; have HN := Lib.hid hst8; clear hst8))
        refine hK.out _ _ ?_ (fun hHeld => ?_)
        · (try dsimp only); (exact ⟨bkeep HN.out.bel x0, bkeep HN.out.bel x1⟩)
        clear hK K
        try simp only [List.getElem_toArray, List.getElem_cons_zero, List.getElem_cons_succ, Act.put, List.setIfInBounds_toArray, List.set_cons_zero, List.set_cons_succ]
        refine wpAnyH_take (i := 7) (v := ?_) rfl (by kernel_rfl) (by kernel_rfl) (by kernel_rfl) (fun _ _ _ h => h) (Or.inl ⟨by rfl, ?_⟩) (by assumption) ?_
        rotate_left; focus (intro w hSw; (try dsimp only at hSw); go_simp; try (with_reducible rfl); done)
        try simp only [List.getElem_toArray, List.getElem_cons_zero, List.getElem_cons_succ, Act.put, List.setIfInBounds_toArray, List.set_cons_zero, List.set_cons_succ]
        refine wpAnyH_ready (rs := [9]) (by kernel_rfl) (by simp) ?_
        refine AllReadyH.cons rfl (fun K hK => ?_) AllReadyH.nil
        (first | (refine St.stepMake rfl (.tmp 23) rfl Try.underlying34 (z := .slice none 0 0) (bytes := 24) (by kernel_rfl) rfl HN.out rows.length rfl (by omega) (by decide) ?_; intro gn w8 hst8; have HN := Lib.hid hst8; clear hst8) | (go_at_call 40; refine (HCL.out _ (HST.out.bel.trans (HN.out.bel.mono HST.out.bel.size))).mono ?_; rintro e w8 ⟨vt, rfl, hot, hbt⟩; obtain ⟨av, cv, hv⟩ := hot.isLen; rw [List.length_map] at hv; subst hv; have HN := Lib.hid (HN.out.pushOwn hbt hot); clear hbt hot) | ((first | (have HP := Lib.hid (HN.out.pick (ρ := [aCel gO 36 Try.zeroCells36, aOwn 23 1 (.slice (some ⟨gn, 0, none⟩) rows.length rows.length) (List.replicate rows.length (.slice none 0 0)), aOwn 3 1 (.slice av tags.length cv) (tags.map (Value.int .i64))]) [0, 1, 2] 3 rfl rfl)) | (have HP := Lib.hid (HN.out.pick (ρ := [aCel gO 36 Try.zeroCells36, aOwn 23 1 (.slice (some ⟨gn, 0, none⟩) rows.length rows.length) (List.replicate rows.length (.slice none 0 0)), aOwn 3 1 (.slice av tags.length cv) (tags.map (Value.int .i64))]) [0, 2, 1] 3 rfl rfl)) | (have HP := Lib.hid (HN.out.pick (ρ := [aCel gO 36 Try.zeroCells36, aOwn 23 1 (.slice (some ⟨gn, 0, none⟩) rows.length rows.length) (List.replicate rows.length (.slice none 0 0)), aOwn 3 1 (.slice av tags.length cv) (tags.map (Value.int .i64))]) [1, 0, 2] 3 rfl rfl)) | (have HP := Lib.hid (HN.out.pick (ρ := [aCel gO 36 Try.zeroCells36, aOwn 23 1 (.slice (some ⟨gn, 0, none⟩) rows.length rows.length) (List.replicate rows.length (.slice none 0 0)), aOwn 3 1 (.slice av tags.length cv) (tags.map (Value.int .i64))]) [1, 2, 0] 3 rfl rfl)) | (have HP := Lib.hid (HN.out.pick (ρ := [aCel gO 36 Try.zeroCells36, aOwn 23 1 (.slice (some ⟨gn, 0, none⟩) rows.length rows.length) (List.replicate rows.length (.slice none 0 0)), aOwn 3 1 (.slice av tags.length cv) (tags.map (Value.int .i64))]) [2, 0, 1] 3 rfl rfl)) | (have HP := Lib.hid (HN.out.pick (ρ := [aCel gO 36 Try.zeroCells36, aOwn 23 1 (.slice (some ⟨gn, 0, none⟩) rows.length rows.length) (List.replicate rows.length (.slice none 0 0)), aOwn 3 1 (.slice av tags.length cv) (tags.map (Value.int .i64))]) [2, 1, 0] 3 rfl rfl))); refine St.stepRow rfl 36 (.tmp 5) (.tmp 28) rfl gO (Pk.outA (List.replicate 256 0) (.slice (some ⟨gn, 0, none⟩) rows.length rows.length) (.slice av tags.length cv)) rfl (congrArg Value.agg (Pk.outA_mk _ _)) HP.out (by rw [Pk.outA_size (by simp)]; exact pkInfo) (by rw [Pk.outA_size (by simp), HZ.out]) (Pk.outA_one _ _ _ rfl rfl) ?_; intro w8 hst8; have HN := Lib.hid hst8; clear hst8 HP)| (refine St.stepNew (T := 36) (cs := Try.zeroCells36) rfl (by intro u; kernel_rfl) HN.out ?_; intro gO w8 hst8; have HN := Lib.hid hst8; clear hst8))
        refine hK.out _ _ ?_ (fun hHeld => ?_)
        · (try dsimp only); (exact ⟨bkeep HN.out.bel x0, bkeep HN.out.bel x1⟩)
        clear hK K
        try simp only [List.getElem_toArray, List.getElem_cons_zero, List.getElem_cons_succ, Act.put, List.setIfInBounds_toArray, List.set_cons_zero, List.set_cons_succ]
        refine wpAnyH_done (by kernel_rfl) ?_ _
        exact REST _ _ _ _ _ (HST.out.join HN.out)
    · skip
      go_simp
      (first | (refine St.stepMake rfl (.tmp 23) rfl Try.underlying34 (z := .slice none 0 0) (bytes := 24) (by kernel_rfl) rfl HN.out rows.length rfl (by omega) (by decide) ?_; intro gn w8 hst8; have HN := Lib.hid hst8; clear hst8) | (go_at_call 40; refine (HCL.out _ (HST.out.bel.trans (HN.out.bel.mono HST.out.bel.size))).mono ?_; rintro e w8 ⟨vt, rfl, hot, hbt⟩; obtain ⟨av, cv, hv⟩ := hot.isLen; rw [List.length_map] at hv; subst hv; have HN := Lib.hid (HN.out.pushOwn hbt hot); clear hbt hot) | ((first | (have HP := Lib.hid (HN.out.pick (ρ := [aCel gO 36 Try.zeroCells36, aOwn 23 1 (.slice (some ⟨gn, 0, none⟩) rows.length rows.length) (List.replicate rows.length (.slice none 0 0)), aOwn 3 1 (.slice av tags.length cv) (tags.map (Value.int .i64))]) [0, 1, 2] 3 rfl rfl)) | (have HP := Lib.hid (HN.out.pick (ρ := [aCel gO 36 Try.zeroCells36, aOwn 23 1 (.slice (some ⟨gn, 0, none⟩) rows.length rows.length) (List.replicate rows.length (.slice none 0 0)), aOwn 3 1 (.slice av tags.length cv) (tags.map (Value.int .i64))]) [0, 2, 1] 3 rfl rfl)) | (have HP := Lib.hid (HN.out.pick (ρ := [aCel gO 36 Try.zeroCells36, aOwn 23 1 (.slice (some ⟨gn, 0, none⟩) rows.length rows.length) (List.replicate rows.length (.slice none 0 0)), aOwn 3 1 (.slice av tags.length cv) (tags.map (Value.int .i64))]) [1, 0, 2] 3 rfl rfl)) | (have HP := Lib.hid (HN.out.pick (ρ := [aCel gO 36 Try.zeroCells36, aOwn 23 1 (.slice (some ⟨gn, 0, none⟩) rows.length rows.length) (List.replicate rows.length (.slice none 0 0)), aOwn 3 1 (.slice av tags.length cv) (tags.map (Value.int .i64))]) [1, 2, 0] 3 rfl rfl)) | (have HP := Lib.hid (HN.out.pick (ρ := [aCel gO 36 Try.zeroCells36, aOwn 23 1 (.slice (some ⟨gn, 0, none⟩) rows.length rows.length) (List.replicate rows.length (.slice none 0 0)), aOwn 3 1 (.slice av tags.length cv) (tags.map (Value.int .i64))]) [2, 0, 1] 3 rfl rfl)) | (have HP := Lib.hid (HN.out.pick (ρ := [aCel gO 36 Try.zeroCells36, aOwn 23 1 (.slice (some ⟨gn, 0, none⟩) rows.length rows.length) (List.replicate rows.length (.slice none 0 0)), aOwn 3 1 (.slice av tags.length cv) (tags.map (Value.int .i64))]) [2, 1, 0] 3 rfl rfl))); refine St.stepRow rfl 36 (.tmp 5) (.tmp 28) rfl gO (Pk.outA (List.replicate 256 0) (.slice (some ⟨gn, 0, none⟩) rows.length rows.length) (.slice av tags.length cv)) rfl (congrArg Value.agg (Pk.outA_mk _ _)) HP.out (by rw [Pk.outA_size (by simp)]; exact pkInfo) (by rw [Pk.outA_size (by simp), HZ.out]) (Pk.outA_one _ _ _ rfl rfl) ?_; intro w8 hst8; have HN := Lib.hid hst8; clear hst8 HP)| (refine St.stepNew (T := 36) (cs := Try.zeroCells36) rfl (by intro u; kernel_rfl) HN.out ?_; intro gO w8 hst8; have HN := Lib.hid hst8; clear hst8))
      refine hK.out _ _ ?_ (fun hHeld => ?_)
      · (try dsimp only); (exact ⟨bkeep HN.out.bel x0, bkeep HN.out.bel x1⟩)
      clear hK K
      try simp only [List.getElem_toArray, List.getElem_cons_zero, List.getElem_cons_succ, Act.put, List.setIfInBounds_toArray, List.set_cons_zero, List.set_cons_succ]
      refine wpAnyH_ready (rs := [3, 8]) (by kernel_rfl) (by simp) ?_
      refine AllReadyH.cons rfl (fun K hK => ?_) (AllReadyH.cons rfl (fun K hK => ?_) (AllReadyH.nil))
      · skip
        (first | (refine St.stepMake rfl (.tmp 23) rfl Try.underlying34 (z := .slice none 0 0) (bytes := 24) (by kernel_rfl) rfl HN.out rows.length rfl (by omega) (by decide) ?_; intro gn w8 hst8; have HN := Lib.hid hst8; clear hst8) | (go_at_call 40; refine (HCL.out _ (HST.out.bel.trans (HN.out.bel.mono HST.out.bel.size))).mono ?_; rintro e w8 ⟨vt, rfl, hot, hbt⟩; obtain ⟨av, cv, hv⟩ := hot.isLen; rw [List.length_map] at hv; subst hv; have HN := Lib.hid (HN.out.pushOwn hbt hot); clear hbt hot) | ((first | (have HP := Lib.hid (HN.out.pick (ρ := [aCel gO 36 Try.zeroCells36, aOwn 23 1 (.slice (some ⟨gn, 0, none⟩) rows.length rows.length) (List.replicate rows.length (.slice none 0 0)), aOwn 3 1 (.slice av tags.length cv) (tags.map (Value.int .i64))]) [0, 1, 2] 3 rfl rfl)) | (have HP := Lib.hid (HN.out.pick (ρ := [aCel gO 36 Try.zeroCells36, aOwn 23 1 (.slice (some ⟨gn, 0, none⟩) rows.length rows.length) (List.replicate rows.length (.slice none 0 0)), aOwn 3 1 (.slice av tags.length cv) (tags.map (Value.int .i64))]) [0, 2, 1] 3 rfl rfl)) | (have HP := Lib.hid (HN.out.pick (ρ := [aCel gO 36 Try.zeroCells36, aOwn 23 1 (.slice (some ⟨gn, 0, none⟩) rows.length rows.length) (List.replicate rows.length (.slice none 0 0)), aOwn 3 1 (.slice av tags.length cv) (tags.map (Value.int .i64))]) [1, 0, 2] 3 rfl rfl)) | (have HP := Lib.hid (HN.out.pick (ρ := [aCel gO 36 Try.zeroCells36, aOwn 23 1 (.slice (some ⟨gn, 0, none⟩) rows.length rows.length) (List.replicate rows.length (.slice none 0 0)), aOwn 3 1 (.slice av tags.length cv) (tags.map (Value.int .i64))]) [1, 2, 0] 3 rfl rfl)) | (have HP := Lib.hid (HN.out.pick (ρ := [aCel gO 36 Try.zeroCells36, aOwn 23 1 (.slice (some ⟨gn, 0, none⟩) rows.length rows.length) (List.replicate rows.length (.slice none 0 0)), aOwn 3 1 (.slice av tags.length cv) (tags.map (Value.int .i64))]) [2, 0, 1] 3 rfl rfl)) | (have HP := Lib.hid (HN.out.pick (ρ := [aCel gO 36 Try.zeroCells36, aOwn 23 1 (.slice (some ⟨gn, 0, none⟩) rows.length rows.length) (List.replicate rows.length (.slice none 0 0)), aOwn 3 1 (.slice av tags.length cv) (tags.map (Value.int .i64))]) [2, 1, 0] 3 rfl rfl))); refine St.stepRow rfl 36 (.tmp 5) (.tmp 28) rfl gO (Pk.outA (List.replicate 256 0) (.slice (some ⟨gn, 0, none⟩) rows.length rows.length) (.slice av tags.length cv)) rfl (congrArg Value.agg (Pk.outA_mk _ _)) HP.out (by rw [Pk.outA_size (by simp)]; exact pkInfo) (by rw [Pk.outA_size (by simp), HZ.out]) (Pk.outA_one _ _ _ rfl rfl) ?_; intro w8 hst8; have HN := Lib.hid hst8; clear hst8 HP)| (refine St.stepNew (T := 36) (cs := Try.zeroCells36) rfl (by intro u; kernel_rfl) HN.out ?_; intro gO w8 hst8; have HN := Lib.hid hst8; clear hst8))
        refine hK.out _ _ ?_ (fun hHeld => ?_)
        · (try dsimp only); (exact ⟨bkeep HN.out.bel x0, bkeep HN.out.bel x1⟩)
        clear hK K
        try simp only [List.getElem_toArray, List.getElem_cons_zero, List.getElem_cons_succ, Act.put, List.setIfInBounds_toArray, List.set_cons_zero, List.set_cons_succ]
        refine wpAnyH_take (i := 7) (v := ?_) rfl (by kernel_rfl) (by kernel_rfl) (by kernel_rfl) (fun _ _ _ h => h) (Or.inl ⟨by rfl, ?_⟩) (by assumption) ?_
        rotate_left; focus (intro w hSw; (try dsimp only at hSw); go_simp; try (with_reducible rfl); done)
        try simp only [List.getElem_toArray, List.getElem_cons_zero, List.getElem_cons_succ, Act.put, List.setIfInBounds_toArray, List.set_cons_zero, List.set_cons_succ]
        refine wpAnyH_ready (rs := [8]) (by kernel_rfl) (by simp) ?_
        refine AllReadyH.cons rfl (fun K hK => ?_) (AllReadyH.nil)
        (first | (refine St.stepMake rfl (.tmp 23) rfl Try.underlying34 (z := .slice none 0 0) (bytes := 24) (by kernel_rfl) rfl HN.out rows.length rfl (by omega) (by decide) ?_; intro gn w8 hst8; have HN := Lib.hid hst8; clear hst8) | (go_at_call 40; refine (HCL.out _ (HST.out.bel.trans (HN.out.bel.mono HST.out.bel.size))).mono ?_; rintro e w8 ⟨vt, rfl, hot, hbt⟩; obtain ⟨av, cv, hv⟩ := hot.isLen; rw [List.length_map] at hv; subst hv; have HN := Lib.hid (HN.out.pushOwn hbt hot); clear hbt hot) | ((first | (have HP := Lib.hid (HN.out.pick (ρ := [aCel gO 36 Try.zeroCells36, aOwn 23 1 (.slice (some ⟨gn, 0, none⟩) rows.length rows.length) (List.replicate rows.length (.slice none 0 0)), aOwn 3 1 (.slice av tags.length cv) (tags.map (Value.int .i64))]) [0, 1, 2] 3 rfl rfl)) | (have HP := Lib.hid (HN.out.pick (ρ := [aCel gO 36 Try.zeroCells36, aOwn 23 1 (.slice (some ⟨gn, 0, none⟩) rows.length rows.length) (List.replicate rows.length (.slice none 0 0)), aOwn 3 1 (.slice av tags.length cv) (tags.map (Value.int .i64))]) [0, 2, 1] 3 rfl rfl)) | (have HP := Lib.hid (HN.out.pick (ρ := [aCel gO 36 Try.zeroCells36, aOwn 23 1 (.slice (some ⟨gn, 0, none⟩) rows.length rows.length) (List.replicate rows.length (.slice none 0 0)), aOwn 3 1 (.slice av tags.length cv) (tags.map (Value.int .i64))]) [1, 0, 2] 3 rfl rfl)) | (have HP := Lib.hid (HN.out.pick (ρ := [aCel gO 36 Try.zeroCells36, aOwn 23 1 (.slice (some ⟨gn, 0, none⟩) rows.length rows.length) (List.replicate rows.length (.slice none 0 0)), aOwn 3 1 (.slice av tags.length cv) (tags.map (Value.int .i64))]) [1, 2, 0] 3 rfl rfl)) | (have HP := Lib.hid (HN.out.pick (ρ := [aCel gO 36 Try.zeroCells36, aOwn 23 1 (.slice (some ⟨gn, 0, none⟩) rows.length rows.length) (List.replicate rows.length (.slice none 0 0)), aOwn 3 1 (.slice av tags.length cv) (tags.map (Value.int .i64))]) [2, 0, 1] 3 rfl rfl)) | (have HP := Lib.hid (HN.out.pick (ρ := [aCel gO 36 Try.zeroCells36, aOwn 23 1 (.slice (some ⟨gn, 0, none⟩) rows.length rows.length) (List.replicate rows.length (.slice none 0 0)), aOwn 3 1 (.slice av tags.length cv) (tags.map (Value.int .i64))]) [2, 1, 0] 3 rfl rfl))); refine St.stepRow rfl 36 (.tmp 5) (.tmp 28) rfl gO (Pk.outA (List.replicate 256 0) (.slice (some ⟨gn, 0, none⟩) rows.length rows.length) (.slice av tags.length cv)) rfl (congrArg Value.agg (Pk.outA_mk _ _)) HP.out (by rw [Pk.outA_size (by simp)]; exact pkInfo) (by rw [Pk.outA_size (by simp), HZ.out]) (Pk.outA_one _ _ _ rfl rfl) ?_; intro w8 hst8; have HN := Lib.hid hst8; clear hst8 HP)| (refine St.stepNew (T := 36) (cs := Try.zeroCells36) rfl (by intro u; kernel_rfl) HN.out ?_; intro gO w8 hst8; have HN := Lib.hid hst8; clear hst8))
        refine hK.out _ _ ?_ (fun hHeld => ?_)
        · (try dsimp only); (exact ⟨bkeep HN.out.bel x0, bkeep HN.out.bel x1⟩)
        clear hK K
        try simp only [List.getElem_toArray, List.getElem_cons_zero, List.getElem_cons_succ, Act.put, List.setIfInBounds_toArray, List.set_cons_zero, List.set_cons_succ]
        refine wpAnyH_ready (rs := [9]) (by kernel_rfl) (by simp) ?_
        refine AllReadyH.cons rfl (fun K hK => ?_) AllReadyH.nil
        (first | (refine St.stepMake rfl (.tmp 23) rfl Try.underlying34 (z := .slice none 0 0) (bytes := 24) (by kernel_rfl) rfl HN.out rows.length rfl (by omega) (by decide) ?_; intro gn w8 hst8; have HN := Lib.hid hst8; clear hst8) | (go_at_call 40; refine (HCL.out _ (HST.out.bel.trans (HN.out.bel.mono HST.out.bel.size))).mono ?_; rintro e w8 ⟨vt, rfl, hot, hbt⟩; obtain ⟨av, cv, hv⟩ := hot.isLen; rw [List.length_map] at hv; subst hv; have HN := Lib.hid (HN.out.pushOwn hbt hot); clear hbt hot) | ((first | (have HP := Lib.hid (HN.out.pick (ρ := [aCel gO 36 Try.zeroCells36, aOwn 23 1 (.slice (some ⟨gn, 0, none⟩) rows.length rows.length) (List.replicate rows.length (.slice none 0 0)), aOwn 3 1 (.slice av tags.length cv) (tags.map (Value.int .i64))]) [0, 1, 2] 3 rfl rfl)) | (have HP := Lib.hid (HN.out.pick (ρ := [aCel gO 36 Try.zeroCells36, aOwn 23 1 (.slice (some ⟨gn, 0, none⟩) rows.length rows.length) (List.replicate rows.length (.slice none 0 0)), aOwn 3 1 (.slice av tags.length cv) (tags.map (Value.int .i64))]) [0, 2, 1] 3 rfl rfl)) | (have HP := Lib.hid (HN.out.pick (ρ := [aCel gO 36 Try.zeroCells36, aOwn 23 1 (.slice (some ⟨gn, 0, none⟩) rows.length rows.length) (List.replicate rows.length (.slice none 0 0)), aOwn 3 1 (.slice av tags.length cv) (tags.map (Value.int .i64))]) [1, 0, 2] 3 rfl rfl)) | (have HP := Lib.hid (HN.out.pick (ρ := [aCel gO 36 Try.zeroCells36, aOwn 23 1 (.slice (some ⟨gn, 0, none⟩) rows.length rows.length) (List.replicate rows.length (.slice none 0 0)), aOwn 3 1 (.slice av tags.length cv) (tags.map (Value.int .i64))]) [1, 2, 0] 3 rfl rfl)) | (have HP := Lib.hid (HN.out.pick (ρ := [aCel gO 36 Try.zeroCells36, aOwn 23 1 (.slice (some ⟨gn, 0, none⟩) rows.length rows.length) (List.replicate rows.length (.slice none 0 0)), aOwn 3 1 (.slice av tags.length cv) (tags.map (Value.int .i64))]) [2, 0, 1] 3 rfl rfl)) | (have HP := Lib.hid (HN.out.pick (ρ := [aCel gO 36 Try.zeroCells36, aOwn 23 1 (.slice (some ⟨gn, 0, none⟩) rows.length rows.length) (List.replicate rows.length (.slice none 0 0)), aOwn 3 1 (.slice av tags.length cv) (tags.map (Value.int .i64))]) [2, 1, 0] 3 rfl rfl))); refine St.stepRow rfl 36 (.tmp 5) (.tmp 28) rfl gO (Pk.outA (List.replicate 256 0) (.slice (some ⟨gn, 0, none⟩) rows.length rows.length) (.slice av tags.length cv)) rfl (congrArg Value.agg (Pk.outA_mk _ _)) HP.out (by rw [Pk.outA_size (by simp)]; exact pkInfo) (by rw [Pk.outA_size (by simp), HZ.out]) (Pk.outA_one _ _ _ rfl rfl) ?_; intro w8 hst8; have HN := Lib.hid hst8; clear hst8 HP)| (refine St.stepNew (T := 36) (cs := Try.zeroCells36) rfl (by intro u; kernel_rfl) HN.out ?_; intro gO w8 hst8; have HN := Lib.hid hst8; clear hst8))
        refine hK.out _ _ ?_ (fun hHeld => ?_)
        · (try dsimp only); (exact ⟨bkeep HN.out.bel x0, bkeep HN.out.bel x1⟩)
        clear hK K
        try simp only [List.getElem_toArray, List.getElem_cons_zero, List.getElem_cons_succ, Act.put, List.setIfInBounds_toArray, List.set_cons_zero, List.set_cons_succ]
        refine wpAnyH_done (by kernel_rfl) ?_ _
        exact REST _ _ _ _ _ (HST.out.join HN.out)
      · skip
        (first | (refine St.stepMake rfl (.tmp 23) rfl Try.underlying34 (z := .slice none 0 0) (bytes := 24) (by kernel_rfl) rfl HN.out rows.length rfl (by omega) (by decide) ?_; intro gn w8 hst8; have HN := Lib.hid hst8; clear hst8) | (go_at_call 40; refine (HCL.out _ (HST.out.bel.trans (HN.out.bel.mono HST.out.bel.size))).mono ?_; rintro e w8 ⟨vt, rfl, hot, hbt⟩; obtain ⟨av, cv, hv⟩ := hot.isLen; rw [List.length_map] at hv; subst hv; have HN := Lib.hid (HN.out.pushOwn hbt hot); clear hbt hot) | ((first | (have HP := Lib.hid (HN.out.pick (ρ := [aCel gO 36 Try.zeroCells36, aOwn 23 1 (.slice (some ⟨gn, 0, none⟩) rows.length rows.length) (List.replicate rows.length (.slice none 0 0)), aOwn 3 1 (.slice av tags.length cv) (tags.map (Value.int .i64))]) [0, 1, 2] 3 rfl rfl)) | (have HP := Lib.hid (HN.out.pick (ρ := [aCel gO 36 Try.zeroCells36, aOwn 23 1 (.slice (some ⟨gn, 0, none⟩) rows.length rows.length) (List.replicate rows.length (.slice none 0 0)), aOwn 3 1 (.slice av tags.length cv) (tags.map (Value.int .i64))]) [0, 2, 1] 3 rfl rfl)) | (have HP := Lib.hid (HN.out.pick (ρ := [aCel gO 36 Try.zeroCells36, aOwn 23 1 (.slice (some ⟨gn, 0, none⟩) rows.length rows.length) (List.replicate rows.length (.slice none 0 0)), aOwn 3 1 (.slice av tags.length cv) (tags.map (Value.int .i64))]) [1, 0, 2] 3 rfl rfl)) | (have HP := Lib.hid (HN.out.pick (ρ := [aCel gO 36 Try.zeroCells36, aOwn 23 1 (.slice (some ⟨gn, 0, none⟩) rows.length rows.length) (List.replicate rows.length (.slice none 0 0)), aOwn 3 1 (.slice av tags.length cv) (tags.map (Value.int .i64))]) [1, 2, 0] 3 rfl rfl)) | (have HP := Lib.hid (HN.out.pick (ρ := [aCel gO 36 Try.zeroCells36, aOwn 23 1 (.slice (some ⟨gn, 0, none⟩) rows.length rows.length) (List.replicate rows.length (.slice none 0 0)), aOwn 3 1 (.slice av tags.length cv) (tags.map (Value.int .i64))]) [2, 0, 1] 3 rfl rfl)) | (have HP := Lib.hid (HN.out.pick (ρ := [aCel gO 36 Try.zeroCells36, aOwn 23 1 (.slice (some ⟨gn, 0, none⟩) rows.length rows.length) (List.replicate rows.length (.slice none 0 0)), aOwn 3 1 (.slice av tags.length cv) (tags.map (Value.int .i64))]) [2, 1, 0] 3 rfl rfl))); refine St.stepRow rfl 36 (.tmp 5) (.tmp 28) rfl gO (Pk.outA (List.replicate 256 0) (.slice (some ⟨gn, 0, none⟩) rows.length rows.length) (.slice av tags.length cv)) rfl (congrArg Value.agg (Pk.outA_mk _ _)) HP.out (by rw [Pk.outA_size (by simp)]; exact pkInfo) (by rw [Pk.outA_size (by simp), HZ.out]) (Pk.outA_one _ _ _ rfl rfl) ?_; intro w8 hst8; have HN := Lib.hid hst8; clear hst8 HP)| (refine St.stepNew (T := 36) (cs := Try.zeroCells36) rfl (by intro u; kernel_rfl) HN.out ?_; intro gO w8 hst8; have HN := Lib.hid hst8; clear hst8))
        refine hK.out _ _ ?_ (fun hHeld => ?_)
        · (try dsimp only); (exact ⟨bkeep HN.out.bel x0, bkeep HN.out.bel x1⟩)
        clear hK K
        try simp only [List.getElem_toArray, List.getElem_cons_zero, List.getElem_cons_succ, Act.put, List.setIfInBounds_toArray, List.set_cons_zero, List.set_cons_succ]
        refine wpAnyH_ready (rs := [3]) (by kernel_rfl) (by simp) ?_
        refine AllReadyH.cons rfl (fun K hK => ?_) (AllReadyH.nil)
        (first | (refine St.stepMake rfl (.tmp 23) rfl Try.underlying34 (z := .slice none 0 0) (bytes := 24) (by kernel_rfl) rfl HN.out rows.length rfl (by omega) (by decide) ?_; intro gn w8 hst8; have HN := Lib.hid hst8; clear hst8) | (go_at_call 40; refine (HCL.out _ (HST.out.bel.trans (HN.out.bel.mono HST.out.bel.size))).mono ?_; rintro e w8 ⟨vt, rfl, hot, hbt⟩; obtain ⟨av, cv, hv⟩ := hot.isLen; rw [List.length_map] at hv; subst hv; have HN := Lib.hid (HN.out.pushOwn hbt hot); clear hbt hot) | ((first | (have HP := Lib.hid (HN.out.pick (ρ := [aCel gO 36 Try.zeroCells36, aOwn 23 1 (.slice (some ⟨gn, 0, none⟩) rows.length rows.length) (List.replicate rows.length (.slice none 0 0)), aOwn 3 1 (.slice av tags.length cv) (tags.map (Value.int .i64))]) [0, 1, 2] 3 rfl rfl)) | (have HP := Lib.hid (HN.out.pick (ρ := [aCel gO 36 Try.zeroCells36, aOwn 23 1 (.slice (some ⟨gn, 0, none⟩) rows.length rows.length) (List.replicate rows.length (.slice none 0 0)), aOwn 3 1 (.slice av tags.length cv) (tags.map (Value.int .i64))]) [0, 2, 1] 3 rfl rfl)) | (have HP := Lib.hid (HN.out.pick (ρ := [aCel gO 36 Try.zeroCells36, aOwn 23 1 (.slice (some ⟨gn, 0, none⟩) rows.length rows.length) (List.replicate rows.length (.slice none 0 0)), aOwn 3 1 (.slice av tags.length cv) (tags.map (Value.int .i64))]) [1, 0, 2] 3 rfl rfl)) | (have HP := Lib.hid (HN.out.pick (ρ := [aCel gO 36 Try.zeroCells36, aOwn 23 1 (.slice (some ⟨gn, 0, none⟩) rows.length rows.length) (List.replicate rows.length (.slice none 0 0)), aOwn 3 1 (.slice av tags.length cv) (tags.map (Value.int .i64))]) [1, 2, 0] 3 rfl rfl)) | (have HP := Lib.hid (HN.out.pick (ρ := [aCel gO 36 Try.zeroCells36, aOwn 23 1 (.slice (some ⟨gn, 0, none⟩) rows.length rows.length) (List.replicate rows.length (.slice none 0 0)), aOwn 3 1 (.slice av tags.length cv) (tags.map (Value.int .i64))]) [2, 0, 1] 3 rfl rfl)) | (have HP := Lib.hid (HN.out.pick (ρ := [aCel gO 36 Try.zeroCells36, aOwn 23 1 (.slice (some ⟨gn, 0, none⟩) rows.length rows.length) (List.replicate rows.length (.slice none 0 0)), aOwn 3 1 (.slice av tags.length cv) (tags.map (Value.int .i64))]) [2, 1, 0] 3 rfl rfl))); refine St.stepRow rfl 36 (.tmp 5) (.tmp 28) rfl gO (Pk.outA (List.replicate 256 0) (.slice (some ⟨gn, 0, none⟩) rows.length rows.length) (.slice av tags.length cv)) rfl (congrArg Value.agg (Pk.outA_mk _ _)) HP.out (by rw [Pk.outA_size (by simp)]; exact pkInfo) (by rw [Pk.outA_size (by simp), HZ.out]) (Pk.outA_one _ _ _ rfl rfl) ?_; intro w8 hst8; have HN := Lib.hid hst8; clear hst8 HP)| (refine St.stepNew (T := 36) (cs := Try.zeroCells36) rfl (by intro u; kernel_rfl) HN.out ?_; intro gO w8 hst8; have HN := Lib.hid hst8; clear hst8))
        refine hK.out _ _ ?_ (fun hHeld => ?_)
        · (try dsimp only); (exact ⟨bkeep HN.out.bel x0, bkeep HN.out.bel x1⟩)
        clear hK K
        try simp only [List.getElem_toArray, List.getElem_cons_zero, List.getElem_cons_succ, Act.put, List.setIfInBounds_toArray, List.set_cons_zero, List.set_cons_succ]
        refine wpAnyH_take (i := 7) (v := ?_) rfl (by kernel_rfl) (by kernel_rfl) (by kernel_rfl) (fun _ _ _ h => h) (Or.inl ⟨by rfl, ?_⟩) (by assumption) ?_
        rotate_left; focus (intro w hSw; (try dsimp only at hSw); go_simp; try (with_reducible rfl); done)
        try simp only [List.getElem_toArray, List.getElem_cons_zero, List.getElem_cons_succ, Act.put, List.setIfInBounds_toArray, List.set_cons_zero, List.set_cons_succ]
        refine wpAnyH_ready (rs := [9]) (by kernel_rfl) (by simp) ?_
        refine AllReadyH.cons rfl (fun K hK => ?_) AllReadyH.nil
        (first | (refine St.stepMake rfl (.tmp 23) rfl Try.underlying34 (z := .slice none 0 0) (bytes := 24) (by kernel_rfl) rfl HN.out rows.length rfl (by omega) (by decide) ?_; intro gn w8 hst8; have HN := Lib.hid hst8; clear hst8) | (go_at_call 40; refine (HCL.out _ (HST.out.bel.trans (HN.out.bel.mono HST.out.bel.size))).mono ?_; rintro e w8 ⟨vt, rfl, hot, hbt⟩; obtain ⟨av, cv, hv⟩ := hot.isLen; rw [List.length_map] at hv; subst hv; have HN := Lib.hid (HN.out.pushOwn hbt hot); clear hbt hot) | ((first | (have HP := Lib.hid (HN.out.pick (ρ := [aCel gO 36 Try.zeroCells36, aOwn 23 1 (.slice (some ⟨gn, 0, none⟩) rows.length rows.length) (List.replicate rows.length (.slice none 0 0)), aOwn 3 1 (.slice av tags.length cv) (tags.map (Value.int .i64))]) [0, 1, 2] 3 rfl rfl)) | (have HP := Lib.hid (HN.out.pick (ρ := [aCel gO 36 Try.zeroCells36, aOwn 23 1 (.slice (some ⟨gn, 0, none⟩) rows.length rows.length) (List.replicate rows.length (.slice none 0 0)), aOwn 3 1 (.slice av tags.length cv) (tags.map (Value.int .i64))]) [0, 2, 1] 3 rfl rfl)) | (have HP := Lib.hid (HN.out.pick (ρ := [aCel gO 36 Try.zeroCells36, aOwn 23 1 (.slice (some ⟨gn, 0, none⟩) rows.length rows.length) (List.replicate rows.length (.slice none 0 0)), aOwn 3 1 (.slice av tags.length cv) (tags.map (Value.int .i64))]) [1, 0, 2] 3 rfl rfl)) | (have HP := Lib.hid (HN.out.pick (ρ := [aCel gO 36 Try.zeroCells36, aOwn 23 1 (.slice (some ⟨gn, 0, none⟩) rows.length rows.length) (List.replicate rows.length (.slice none 0 0)), aOwn 3 1 (.slice av tags.length cv) (tags.map (Value.int .i64))]) [1, 2, 0] 3 rfl rfl)) | (have HP := Lib.hid (HN.out.pick (ρ := [aCel gO 36 Try.zeroCells36, aOwn 23 1 (.slice (some ⟨gn, 0, none⟩) rows.length rows.length) (List.replicate rows.length (.slice none 0 0)), aOwn 3 1 (.slice av tags.length cv) (tags.map (Value.int .i64))]) [2, 0, 1] 3 rfl rfl)) | (have HP := Lib.hid (HN.out.pick (ρ := [aCel gO 36 Try.zeroCells36, aOwn 23 1 (.slice (some ⟨gn, 0, none⟩) rows.length rows.length) (List.replicate rows.length (.slice none 0 0)), aOwn 3 1 (.slice av tags.length cv) (tags.map (Value.int .i64))]) [2, 1, 0] 3 rfl rfl))); refine St.stepRow rfl 36 (.tmp 5) (.tmp 28) rfl gO (Pk.outA (List.replicate 256 0) (.slice (some ⟨gn, 0, none⟩) rows.length rows.length) (.slice av tags.length cv)) rfl (congrArg Value.agg (Pk.outA_mk _ _)) HP.out (by rw [Pk.outA_size (by simp)]; exact pkInfo) (by rw [Pk.outA_size (by simp), HZ.out]) (Pk.outA_one _ _ _ rfl rfl) ?_; intro w8 hst8; have HN := Lib.hid hst8; clear hst8 HP)| (refine St.stepNew (T := 36) (cs := Try.zeroCells36) rfl (by intro u; kernel_rfl) HN.out ?_; intro gO w8 hst8; have HN := Lib.hid hst8; clear hst8))
        refine hK.out _ _ ?_ (fun hHeld => ?_)
        · (try dsimp only); (exact ⟨bkeep HN.out.bel x0, bkeep HN.out.bel x1⟩)
        clear hK K
        try simp only [List.getElem_toArray, List.getElem_cons_zero, List.getElem_cons_succ, Act.put, List.setIfInBounds_toArray, List.set_cons_zero, List.set_cons_succ]
        refine wpAnyH_done (by kernel_rfl) ?_ _
        exact REST _ _ _ _ _ (HST.out.join HN.out)
    · skip
      (first | (refine St.stepMake rfl (.tmp 23) rfl Try.underlying34 (z := .slice none 0 0) (bytes := 24) (by kernel_rfl) rfl HN.out rows.length rfl (by omega) (by decide) ?_; intro gn w8 hst8; have HN := Lib.hid hst8; clear hst8) | (go_at_call 40; refine (HCL.out _ (HST.out.bel.trans (HN.out.bel.mono HST.out.bel.size))).mono ?_; rintro e w8 ⟨vt, rfl, hot, hbt⟩; obtain ⟨av, cv, hv⟩ := hot.isLen; rw [List.length_map] at hv; subst hv; have HN := Lib.hid (HN.out.pushOwn hbt hot); clear hbt hot) | ((first | (have HP := Lib.hid (HN.out.pick (ρ := [aCel gO 36 Try.zeroCells36, aOwn 23 1 (.slice (some ⟨gn, 0, none⟩) rows.length rows.length) (List.replicate rows.length (.slice none 0 0)), aOwn 3 1 (.slice av tags.length cv) (tags.map (Value.int .i64))]) [0, 1, 2] 3 rfl rfl)) | (have HP := Lib.hid (HN.out.pick (ρ := [aCel gO 36 Try.zeroCells36, aOwn 23 1 (.slice (some ⟨gn, 0, none⟩) rows.length rows.length) (List.replicate rows.length (.slice none 0 0)), aOwn 3 1 (.slice av tags.length cv) (tags.map (Value.int .i64))]) [0, 2, 1] 3 rfl rfl)) | (have HP := Lib.hid (HN.out.pick (ρ := [aCel gO 36 Try.zeroCells36, aOwn 23 1 (.slice (some ⟨gn, 0, none⟩) rows.length rows.length) (List.replicate rows.length (.slice none 0 0)), aOwn 3 1 (.slice av tags.length cv) (tags.map (Value.int .i64))]) [1, 0, 2] 3 rfl rfl)) | (have HP := Lib.hid (HN.out.pick (ρ := [aCel gO 36 Try.zeroCells36, aOwn 23 1 (.slice (some ⟨gn, 0, none⟩) rows.length rows.length) (List.replicate rows.length (.slice none 0 0)), aOwn 3 1 (.slice av tags.length cv) (tags.map (Value.int .i64))]) [1, 2, 0] 3 rfl rfl)) | (have HP := Lib.hid (HN.out.pick (ρ := [aCel gO 36 Try.zeroCells36, aOwn 23 1 (.slice (some ⟨gn, 0, none⟩) rows.length rows.length) (List.replicate rows.length (.slice none 0 0)), aOwn 3 1 (.slice av tags.length cv) (tags.map (Value.int .i64))]) [2, 0, 1] 3 rfl rfl)) | (have HP := Lib.hid (HN.out.pick (ρ := [aCel gO 36 Try.zeroCells36, aOwn 23 1 (.slice (some ⟨gn, 0, none⟩) rows.length rows.length) (List.replicate rows.length (.slice none 0 0)), aOwn 3 1 (.slice av tags.length cv) (tags.map (Value.int .i64))]) [2, 1, 0] 3 rfl rfl))); refine St.stepRow rfl 36 (.tmp 5) (.tmp 28) rfl gO (Pk.outA (List.replicate 256 0) (.slice (some ⟨gn, 0, none⟩) rows.length rows.length) (.slice av tags.length cv)) rfl (congrArg Value.agg (Pk.outA_mk _ _)) HP.out (by rw [Pk.outA_size (by simp)]; exact pkInfo) (by rw [Pk.outA_size (by simp), HZ.out]) (Pk.outA_one _ _ _ rfl rfl) ?_; intro w8 hst8; have HN := Lib.hid hst8; clear hst8 HP)| (refine St.stepNew (T := 36) (cs := Try.zeroCells36) rfl (by intro u; kernel_rfl) HN.out ?_; intro gO w8 hst8; have HN := Lib.hid hst8; clear hst8))
      refine hK.out _ _ ?_ (fun hHeld => ?_)
      · (try dsimp only); (exact ⟨bkeep HN.out.bel x0, bkeep HN.out.bel x1⟩)
      clear hK K
      try simp only [List.getElem_toArray, List.getElem_cons_zero, List.getElem_cons_succ, Act.put, List.setIfInBounds_toArray, List.set_cons_zero, List.set_cons_succ]
      refine wpAnyH_ready (rs := [3, 6]) (by kernel_rfl) (by simp) ?_
      refine AllReadyH.cons rfl (fun K hK => ?_) (AllReadyH.cons rfl (fun K hK => ?_) (AllReadyH.nil))
      · skip
        (first | (refine St.stepMake rfl (.tmp 23) rfl Try.underlying34 (z := .slice none 0 0) (bytes := 24) (by kernel_rfl) rfl HN.out rows.length rfl (by omega) (by decide) ?_; intro gn w8 hst8; have HN := Lib.hid hst8; clear hst8) | (go_at_call 40; refine (HCL.out _ (HST.out.bel.trans (HN.out.bel.mono HST.out.bel.size))).mono ?_; rintro e w8 ⟨vt, rfl, hot, hbt⟩; obtain ⟨av, cv, hv⟩ := hot.isLen; rw [List.length_map] at hv; subst hv; have HN := Lib.hid (HN.out.pushOwn hbt hot); clear hbt hot) | ((first | (have HP := Lib.hid (HN.out.pick (ρ := [aCel gO 36 Try.zeroCells36, aOwn 23 1 (.slice (some ⟨gn, 0, none⟩) rows.length rows.length) (List.replicate rows.length (.slice none 0 0)), aOwn 3 1 (.slice av tags.length cv) (tags.map (Value.int .i64))]) [0, 1, 2] 3 rfl rfl)) | (have HP := Lib.hid (HN.out.pick (ρ := [aCel gO 36 Try.zeroCells36, aOwn 23 1 (.slice (some ⟨gn, 0, none⟩) rows.length rows.length) (List.replicate rows.length (.slice none 0 0)), aOwn 3 1 (.slice av tags.length cv) (tags.map (Value.int .i64))]) [0, 2, 1] 3 rfl rfl)) | (have HP := Lib.hid (HN.out.pick (ρ := [aCel gO 36 Try.zeroCells36, aOwn 23 1 (.slice (some ⟨gn, 0, none⟩) rows.length rows.length) (List.replicate rows.length (.slice none 0 0)), aOwn 3 1 (.slice av tags.length cv) (tags.map (Value.int .i64))]) [1, 0, 2] 3 rfl rfl)) | (have HP := Lib.hid (HN.out.pick (ρ := [aCel gO 36 Try.zeroCells36, aOwn 23 1 (.slice (some ⟨gn, 0, none⟩) rows.length rows.length) (List.replicate rows.length (.slice none 0 0)), aOwn 3 1 (.slice av tags.length cv) (tags.map (Value.int .i64))]) [1, 2, 0] 3 rfl rfl)) | (have HP := Lib.hid (HN.out.pick (ρ := [aCel gO 36 Try.zeroCells36, aOwn 23 1 (.slice (some ⟨gn, 0, none⟩) rows.length rows.length) (List.replicate rows.length (.slice none 0 0)), aOwn 3 1 (.slice av tags.length cv) (tags.map (Value.int .i64))]) [2, 0, 1] 3 rfl rfl)) | (have HP := Lib.hid (HN.out.pick (ρ := [aCel gO 36 Try.zeroCells36, aOwn 23 1 (.slice (some ⟨gn, 0, none⟩) rows.length rows.length) (List.replicate rows.length (.slice none 0 0)), aOwn 3 1 (.slice av tags.length cv) (tags.map (Value.int .i64))]) [2, 1, 0] 3 rfl rfl))); refine St.stepRow rfl 36 (.tmp 5) (.tmp 28) rfl gO (Pk.outA (List.replicate 256 0) (.slice (some ⟨gn, 0, none⟩) rows.length rows.length) (.slice av tags.length cv)) rfl (congrArg Value.agg (Pk.outA_mk _ _)) HP.out (by rw [Pk.outA_size (by simp)]; exact pkInfo) (by rw [Pk.outA_size (by simp), HZ.out]) (Pk.outA_one _ _ _ rfl rfl) ?_; intro w8 hst8; have HN := Lib.hid hst8; clear hst8 HP)| (refine St.stepNew (T := 36) (cs := Try.zeroCells36) rfl (by intro u; kernel_rfl) HN.out ?_; intro gO w8 hst8; have HN := Lib.hid hst8; clear hst8))
        refine hK.out _ _ ?_ (fun hHeld => ?_)
        · (try dsimp only); (exact ⟨bkeep HN.out.bel x0, bkeep HN.out.bel x1⟩)
        clear hK K
        try simp only [List.getElem_toArray, List.getElem_cons_zero, List.getElem_cons_succ, Act.put, List.setIfInBounds_toArray, List.set_cons_zero, List.set_cons_succ]
        refine wpAnyH_ready (rs := [6]) (by kernel_rfl) (by simp) ?_
        refine AllReadyH.cons rfl (fun K hK => ?_) (AllReadyH.nil)
        go_simp
        (first | (refine St.stepMake rfl (.tmp 23) rfl Try.underlying34 (z := .slice none 0 0) (bytes := 24) (by kernel_rfl) rfl HN.out rows.length rfl (by omega) (by decide) ?_; intro gn w8 hst8; have HN := Lib.hid hst8; clear hst8) | (go_at_call 40; refine (HCL.out _ (HST.out.bel.trans (HN.out.bel.mono HST.out.bel.size))).mono ?_; rintro e w8 ⟨vt, rfl, hot, hbt⟩; obtain ⟨av, cv, hv⟩ := hot.isLen; rw [List.length_map] at hv; subst hv; have HN := Lib.hid (HN.out.pushOwn hbt hot); clear hbt hot) | ((first | (have HP := Lib.hid (HN.out.pick (ρ := [aCel gO 36 Try.zeroCells36, aOwn 23 1 (.slice (some ⟨gn, 0, none⟩) rows.length rows.length) (List.replicate rows.length (.slice none 0 0)), aOwn 3 1 (.slice av tags.length cv) (tags.map (Value.int .i64))]) [0, 1, 2] 3 rfl rfl)) | (have HP := Lib.hid (HN.out.pick (ρ := [aCel gO 36 Try.zeroCells36, aOwn 23 1 (.slice (some ⟨gn, 0, none⟩) rows.length rows.length) (List.replicate rows.length (.slice none 0 0)), aOwn 3 1 (.slice av tags.length cv) (tags.map (Value.int .i64))]) [0, 2, 1] 3 rfl rfl)) | (have HP := Lib.hid (HN.out.pick (ρ := [aCel gO 36 Try.zeroCells36, aOwn 23 1 (.slice (some ⟨gn, 0, none⟩) rows.length rows.length) (List.replicate rows.length (.slice none 0 0)), aOwn 3 1 (.slice av tags.length cv) (tags.map (Value.int .i64))]) [1, 0, 2] 3 rfl rfl)) | (have HP := Lib.hid (HN.out.pick (ρ := [aCel gO 36 Try.zeroCells36, aOwn 23 1 (.slice (some ⟨gn, 0, none⟩) rows.length rows.length) (List.replicate rows.length (.slice none 0 0)), aOwn 3 1 (.slice av tags.length cv) (tags.map (Value.int .i64))]) [1, 2, 0] 3 rfl rfl)) | (have HP := Lib.hid (HN.out.pick (ρ := [aCel gO 36 Try.zeroCells36, aOwn 23 1 (.slice (some ⟨gn, 0, none⟩) rows.length rows.length) (List.replicate rows.length (.slice none 0 0)), aOwn 3 1 (.slice av tags.length cv) (tags.map (Value.int .i64))]) [2, 0, 1] 3 rfl rfl)) | (have HP := Lib.hid (HN.out.pick (ρ := [aCel gO 36 Try.zeroCells36, aOwn 23 1 (.slice (some ⟨gn, 0, none⟩) rows.length rows.length) (List.replicate rows.length (.slice none 0 0)), aOwn 3 1 (.slice av tags.length cv) (tags.map (Value.int .i64))]) [2, 1, 0] 3 rfl rfl))); refine St.stepRow rfl 36 (.tmp 5) (.tmp 28) rfl gO (Pk.outA (List.replicate 256 0) (.slice (some ⟨gn, 0, none⟩) rows.length rows.length) (.slice av tags.length cv)) rfl (congrArg Value.agg (Pk.outA_mk _ _)) HP.out (by rw [Pk.outA_size (by simp)]; exact pkInfo) (by rw [Pk.outA_size (by simp), HZ.out]) (Pk.outA_one _ _ _ rfl rfl) ?_; intro w8 hst8; have HN := Lib.hid hst8; clear hst8 HP)| (refine St.stepNew (T := 36) (cs := Try.zeroCells36) rfl (by intro u; kernel_rfl) HN.out ?_; intro gO w8 hst8; have HN := Lib.hid hst8; clear hst8))
        refine hK.out _ _ ?_ (fun hHeld => ?_)
        · (try dsimp only); (exact ⟨bkeep HN.out.bel x0, bkeep HN.out.bel x1⟩)
        clear hK K
        try simp only [List.getElem_toArray, List.getElem_cons_zero, List.getElem_cons_succ, Act.put, List.setIfInBounds_toArray, List.set_cons_zero, List.set_cons_succ]
        refine wpAnyH_take (i := 7) (v := ?_) rfl (by kernel_rfl) (by kernel_rfl) (by kernel_rfl) (fun _ _ _ h => h) (Or.inl ⟨by rfl, ?_⟩) (by assumption) ?_
        rotate_left; focus (intro w hSw; (try dsimp only at hSw); go_simp; try (with_reducible rfl); done)
        try simp only [List.getElem_toArray, List.getElem_cons_zero, List.getElem_cons_succ, Act.put, List.setIfInBounds_toArray, List.set_cons_zero, List.set_cons_succ]
        refine wpAnyH_ready (rs := [9]) (by kernel_rfl) (by simp) ?_
        refine AllReadyH.cons rfl (fun K hK => ?_) AllReadyH.nil
        (first | (refine St.stepMake rfl (.tmp 23) rfl Try.underlying34 (z := .slice none 0 0) (bytes := 24) (by kernel_rfl) rfl HN.out rows.length rfl (by omega) (by decide) ?_; intro gn w8 hst8; have HN := Lib.hid hst8; clear hst8) | (go_at_call 40; refine (HCL.out _ (HST.out.bel.trans (HN.out.bel.mono HST.out.bel.size))).mono ?_; rintro e w8 ⟨vt, rfl, hot, hbt⟩; obtain ⟨av, cv, hv⟩ := hot.isLen; rw [List.length_map] at hv; subst hv; have HN := Lib.hid (HN.out.pushOwn hbt hot); clear hbt hot) | ((first | (have HP := Lib.hid (HN.out.pick (ρ := [aCel gO 36 Try.zeroCells36, aOwn 23 1 (.slice (some ⟨gn, 0, none⟩) rows.length rows.length) (List.replicate rows.length (.slice none 0 0)), aOwn 3 1 (.slice av tags.length cv) (tags.map (Value.int .i64))]) [0, 1, 2] 3 rfl rfl)) | (have HP := Lib.hid (HN.out.pick (ρ := [aCel gO 36 Try.zeroCells36, aOwn 23 1 (.slice (some ⟨gn, 0, none⟩) rows.length rows.length) (List.replicate rows.length (.slice none 0 0)), aOwn 3 1 (.slice av tags.length cv) (tags.map (Value.int .i64))]) [0, 2, 1] 3 rfl rfl)) | (have HP := Lib.hid (HN.out.pick (ρ := [aCel gO 36 Try.zeroCells36, aOwn 23 1 (.slice (some ⟨gn, 0, none⟩) rows.length rows.length) (List.replicate rows.length (.slice none 0 0)), aOwn 3 1 (.slice av tags.length cv) (tags.map (Value.int .i64))]) [1, 0, 2] 3 rfl rfl)) | (have HP := Lib.hid (HN.out.pick (ρ := [aCel gO 36 Try.zeroCells36, aOwn 23 1 (.slice (some ⟨gn, 0, none⟩) rows.length rows.length) (List.replicate rows.length (.slice none 0 0)), aOwn 3 1 (.slice av tags.length cv) (tags.map (Value.int .i64))]) [1, 2, 0] 3 rfl rfl)) | (have HP := Lib.hid (HN.out.pick (ρ := [aCel gO 36 Try.zeroCells36, aOwn 23 1 (.slice (some ⟨gn, 0, none⟩) rows.length rows.length) (List.replicate rows.length (.slice none 0 0)), aOwn 3 1 (.slice av tags.length cv) (tags.map (Value.int .i64))]) [2, 0, 1] 3 rfl rfl)) | (have HP := Lib.hid (HN.out.pick (ρ := [aCel gO 36 Try.zeroCells36, aOwn 23 1 (.slice (some ⟨gn, 0, none⟩) rows.length rows.length) (List.replicate rows.length (.slice none 0 0)), aOwn 3 1 (.slice av tags.length cv) (tags.map (Value.int .i64))]) [2, 1, 0] 3 rfl rfl))); refine St.stepRow rfl 36 (.tmp 5) (.tmp 28) rfl gO (Pk.outA (List.replicate 256 0) (.slice (some ⟨gn, 0, none⟩) rows.length rows.length) (.slice av tags.length cv)) rfl (congrArg Value.agg (Pk.outA_mk _ _)) HP.out (by rw [Pk.outA_size (by simp)]; exact pkInfo) (by rw [Pk.outA_size (by simp), HZ.out]) (Pk.outA_one _ _ _ rfl rfl) ?_; intro w8 hst8; have HN := Lib.hid hst8; clear hst8 HP)| (refine St.stepNew (T := 36) (cs := Try.zeroCells36) rfl (by intro u; kernel_rfl) HN.out ?_; intro gO w8 hst8; have HN := Lib.hid hst8; clear hst8))
        refine hK.out _ _ ?_ (fun hHeld => ?_)
        · (try dsimp only); (exact ⟨bkeep HN.out.bel x0, bkeep HN.out.bel x1⟩)
        clear hK K
        try simp only [List.getElem_toArray, List.getElem_cons_zero, List.getElem_cons_succ, Act.put, List.setIfInBounds_toArray, List.set_cons_zero, List.set_cons_succ]
        refine wpAnyH_done (by kernel_rfl) ?_ _
        exact REST _ _ _ _ _ (HST.out.join HN.out)
      · skip
        go_simp
        (first | (refine St.stepMake rfl (.tmp 23) rfl Try.underlying34 (z := .slice none 0 0) (bytes := 24) (by kernel_rfl) rfl HN.out rows.length rfl (by omega) (by decide) ?_; intro gn w8 hst8; have HN := Lib.hid hst8; clear hst8) | (go_at_call 40; refine (HCL.out _ (HST.out.bel.trans (HN.out.bel.mono HST.out.bel.size))).mono ?_; rintro e w8 ⟨vt, rfl, hot, hbt⟩; obtain ⟨av, cv, hv⟩ := hot.isLen; rw [List.length_map] at hv; subst hv; have HN := Lib.hid (HN.out.pushOwn hbt hot); clear hbt hot) | ((first | (have HP := Lib.hid (HN.out.pick (ρ := [aCel gO 36 Try.zeroCells36, aOwn 23 1 (.slice (some ⟨gn, 0, none⟩) rows.length rows.length) (List.replicate rows.length (.slice none 0 0)), aOwn 3 1 (.slice av tags.length cv) (tags.map (Value.int .i64))]) [0, 1, 2] 3 rfl rfl)) | (have HP := Lib.hid (HN.out.pick (ρ := [aCel gO 36 Try.zeroCells36, aOwn 23 1 (.slice (some ⟨gn, 0, none⟩) rows.length rows.length) (List.replicate rows.length (.slice none 0 0)), aOwn 3 1 (.slice av tags.length cv) (tags.map (Value.int .i64))]) [0, 2, 1] 3 rfl rfl)) | (have HP := Lib.hid (HN.out.pick (ρ := [aCel gO 36 Try.zeroCells36, aOwn 23 1 (.slice (some ⟨gn, 0, none⟩) rows.length rows.length) (List.replicate rows.length (.slice none 0 0)), aOwn 3 1 (.slice av tags.length cv) (tags.map (Value.int .i64))]) [1, 0, 2] 3 rfl rfl)) | (have HP := Lib.hid (HN.out.pick (ρ := [aCel gO 36 Try.zeroCells36, aOwn 23 1 (.slice (some ⟨gn, 0, none⟩) rows.length rows.length) (List.replicate rows.length (.slice none 0 0)), aOwn 3 1 (.slice av tags.length cv) (tags.map (Value.int .i64))]) [1, 2, 0] 3 rfl rfl)) | (have HP := Lib.hid (HN.out.pick (ρ := [aCel gO 36 Try.zeroCells36, aOwn 23 1 (.slice (some ⟨gn, 0, none⟩) rows.length rows.length) (List.replicate rows.length (.slice none 0 0)), aOwn 3 1 (.slice av tags.length cv) (tags.map (Value.int .i64))]) [2, 0, 1] 3 rfl rfl)) | (have HP := Lib.hid (HN.out.pick (ρ := [aCel gO 36 Try.zeroCells36, aOwn 23 1 (.slice (some ⟨gn, 0, none⟩) rows.length rows.length) (List.replicate rows.length (.slice none 0 0)), aOwn 3 1 (.slice av tags.length cv) (tags.map (Value.int .i64))]) [2, 1, 0] 3 rfl rfl))); refine St.stepRow rfl 36 (.tmp 5) (.tmp 28) rfl gO (Pk.outA (List.replicate 256 0) (.slice (some ⟨gn, 0, none⟩) rows.length rows.length) (.slice av tags.length cv)) rfl (congrArg Value.agg (Pk.outA_mk _ _)) HP.out (by rw [Pk.outA_size (by simp)]; exact pkInfo) (by rw [Pk.outA_size (by simp), HZ.out]) (Pk.outA_one _ _ _ rfl rfl) ?_; intro w8 hst8; have HN := Lib.hid hst8; clear hst8 HP)| (refine St.stepNew (T := 36) (cs := Try.zeroCells36) rfl (by intro u; kernel_rfl) HN.out ?_; intro gO w8 hst8; have HN := Lib.hid hst8; clear hst8))
        refine hK.out _ _ ?_ (fun hHeld => ?_)
        · (try dsimp only); (exact ⟨bkeep HN.out.bel x0, bkeep HN.out.bel x1⟩)
        clear hK K
        try simp only [List.getElem_toArray, List.getElem_cons_zero, List.getElem_cons_succ, Act.put, List.setIfInBounds_toArray, List.set_cons_zero, List.set_cons_succ]
        refine wpAnyH_ready (rs := [3]) (by kernel_rfl) (by simp) ?_
        refine AllReadyH.cons rfl (fun K hK => ?_) (AllReadyH.nil)
        (first | (refine St.stepMake rfl (.tmp 23) rfl Try.underlying34 (z := .slice none 0 0) (bytes := 24) (by kernel_rfl) rfl HN.out rows.length rfl (by omega) (by decide) ?_; intro gn w8 hst8; have HN := Lib.hid hst8; clear hst8) | (go_at_call 40; refine (HCL.out _ (HST.out.bel.trans (HN.out.bel.mono HST.out.bel.size))).mono ?_; rintro e w8 ⟨vt, rfl, hot, hbt⟩; obtain ⟨av, cv, hv⟩ := hot.isLen; rw [List.length_map] at hv; subst hv; have HN := Lib.hid (HN.out.pushOwn hbt hot); clear hbt hot) | ((first | (have HP := Lib.hid (HN.out.pick (ρ := [aCel gO 36 Try.zeroCells36, aOwn 23 1 (.slice (some ⟨gn, 0, none⟩) rows.length rows.length) (List.replicate rows.length (.slice none 0 0)), aOwn 3 1 (.slice av tags.length cv) (tags.map (Value.int .i64))]) [0, 1, 2] 3 rfl rfl)) | (have HP := Lib.hid (HN.out.pick (ρ := [aCel gO 36 Try.zeroCells36, aOwn 23 1 (.slice (some ⟨gn, 0, none⟩) rows.length rows.length) (List.replicate rows.length (.slice none 0 0)), aOwn 3 1 (.slice av tags.length cv) (tags.map (Value.int .i64))]) [0, 2, 1] 3 rfl rfl)) | (have HP := Lib.hid (HN.out.pick (ρ := [aCel gO 36 Try.zeroCells36, aOwn 23 1 (.slice (some ⟨gn, 0, none⟩) rows.length rows.length) (List.replicate rows.length (.slice none 0 0)), aOwn 3 1 (.slice av tags.length cv) (tags.map (Value.int .i64))]) [1, 0, 2] 3 rfl rfl)) | (have HP := Lib.hid (HN.out.pick (ρ := [aCel gO 36 Try.zeroCells36, aOwn 23 1 (.slice (some ⟨gn, 0, none⟩) rows.length rows.length) (List.replicate rows.length (.slice none 0 0)), aOwn 3 1 (.slice av tags.length cv) (tags.map (Value.int .i64))]) [1, 2, 0] 3 rfl rfl)) | (have HP := Lib.hid (HN.out.pick (ρ := [aCel gO 36 Try.zeroCells36, aOwn 23 1 (.slice (some ⟨gn, 0, none⟩) rows.length rows.length) (List.replicate rows.length (.slice none 0 0)), aOwn 3 1 (.slice av tags.length cv) (tags.map (Value.int .i64))]) [2, 0, 1] 3 rfl rfl)) | (have HP := Lib.hid (HN.out.pick (ρ := [aCel gO 36 Try.zeroCells36, aOwn 23 1 (.slice (some ⟨gn, 0, none⟩) rows.length rows.length) (List.replicate rows.length (.slice none 0 0)), aOwn 3 1 (.slice av tags.length cv) (tags.map (Value.int .i64))]) [2, 1, 0] 3 rfl rfl))); refine St.stepRow rfl 36 (.tmp 5) (.tmp 28) rfl gO (Pk.outA (List.replicate 256 0) (.slice (some ⟨gn, 0, none⟩) rows.length rows.length) (.slice av tags.length cv)) rfl (congrArg Value.agg (Pk.outA_mk _ _)) HP.out (by rw [Pk.outA_size (by simp)]; exact pkInfo) (by rw [Pk.outA_size (by simp), HZ.out]) (Pk.outA_one _ _ _ rfl rfl) ?_; intro w8 hst8; have HN := Lib.hid hst8; clear hst8 HP)| (refine St.stepNew (T := 36) (cs := Try.zeroCells36) rfl (by intro u; kernel_rfl) HN.out ?_; intro gO w8 hst8; have HN := Lib.hid hst8; clear hst8))
        refine hK.out _ _ ?_ (fun hHeld => ?_)
        · (try dsimp only); (exact ⟨bkeep HN.out.bel x0, bkeep HN.out.bel x1⟩)
        clear hK K
        try simp only [List.getElem_toArray, List.getElem_cons_zero, List.getElem_cons_succ, Act.put, List.setIfInBounds_toArray, List.set_cons_zero, List.set_cons_succ]
        refine wpAnyH_take (i := 7) (v := ?_) rfl (by kernel_rfl) (by kernel_rfl) (by kernel_rfl) (fun _ _ _ h => h) (Or.inl ⟨by rfl, ?_⟩) (by assumption) ?_
        rotate_left; focus (intro w hSw; (try dsimp only at hSw); go_simp; try (with_reducible rfl); done)
        try simp only [List.getElem_toArray, List.getElem_cons_zero, List.getElem_cons_succ, Act.put, List.setIfInBounds_toArray, List.set_cons_zero, List.set_cons_succ]
        refine wpAnyH_ready (rs := [9]) (by kernel_rfl) (by simp) ?_
        refine AllReadyH.cons rfl (fun K hK => ?_) AllReadyH.nil
        (first | (refine St.stepMake rfl (.tmp 23) rfl Try.underlying34 (z := .slice none 0 0) (bytes := 24) (by kernel_rfl) rfl HN.out rows.length rfl (by omega) (by decide) ?_; intro gn w8 hst8; have HN := Lib.hid hst8; clear hst8) | (go_at_call 40; refine (HCL.out _ (HST.out.bel.trans (HN.out.bel.mono HST.out.bel.size))).mono ?_; rintro e w8 ⟨vt, rfl, hot, hbt⟩; obtain ⟨av, cv, hv⟩ := hot.isLen; rw [List.length_map] at hv; subst hv; have HN := Lib.hid (HN.out.pushOwn hbt hot); clear hbt hot) | ((first | (have HP := Lib.hid (HN.out.pick (ρ := [aCel gO 36 Try.zeroCells36, aOwn 23 1 (.slice (some ⟨gn, 0, none⟩) rows.length rows.length) (List.replicate rows.length (.slice none 0 0)), aOwn 3 1 (.slice av tags.length cv) (tags.map (Value.int .i64))]) [0, 1, 2] 3 rfl rfl)) | (have HP := Lib.hid (HN.out.pick (ρ := [aCel gO 36 Try.zeroCells36, aOwn 23 1 (.slice (some ⟨gn, 0, none⟩) rows.length rows.length) (List.replicate rows.length (.slice none 0 0)), aOwn 3 1 (.slice av tags.length cv) (tags.map (Value.int .i64))]) [0, 2, 1] 3 rfl rfl)) | (have HP := Lib.hid (HN.out.pick (ρ := [aCel gO 36 Try.zeroCells36, aOwn 23 1 (.slice (some ⟨gn, 0, none⟩) rows.length rows.length) (List.replicate rows.length (.slice none 0 0)), aOwn 3 1 (.slice av tags.length cv) (tags.map (Value.int .i64))]) [1, 0, 2] 3 rfl rfl)) | (have HP := Lib.hid (HN.out.pick (ρ := [aCel gO 36 Try.zeroCells36, aOwn 23 1 (.slice (some ⟨gn, 0, none⟩) rows.length rows.length) (List.replicate rows.length (.slice none 0 0)), aOwn 3 1 (.slice av tags.length cv) (tags.map (Value.int .i64))]) [1, 2, 0] 3 rfl rfl)) | (have HP := Lib.hid (HN.out.pick (ρ := [aCel gO 36 Try.zeroCells36, aOwn 23 1 (.slice (some ⟨gn, 0, none⟩) rows.length rows.length) (List.replicate rows.length (.slice none 0 0)), aOwn 3 1 (.slice av tags.length cv) (tags.map (Value.int .i64))]) [2, 0, 1] 3 rfl rfl)) | (have HP := Lib.hid (HN.out.pick (ρ := [aCel gO 36 Try.zeroCells36, aOwn 23 1 (.slice (some ⟨gn, 0, none⟩) rows.length rows.length) (List.replicate rows.length (.slice none 0 0)), aOwn 3 1 (.slice av tags.length cv) (tags.map (Value.int .i64))]) [2, 1, 0] 3 rfl rfl))); refine St.stepRow rfl 36 (.tmp 5) (.tmp 28) rfl gO (Pk.outA (List.replicate 256 0) (.slice (some ⟨gn, 0, none⟩) rows.length rows.length) (.slice av tags.length cv)) rfl (congrArg Value.agg (Pk.outA_mk _ _)) HP.out (by rw [Pk.outA_size (by simp)]; exact pkInfo) (by rw [Pk.outA_size (by simp), HZ.out]) (Pk.outA_one _ _ _ rfl rfl) ?_; intro w8 hst8; have HN := Lib.hid hst8; clear hst8 HP)| (refine St.stepNew (T := 36) (cs := Try.zeroCells36) rfl (by intro u; kernel_rfl) HN.out ?_; intro gO w8 hst8; have HN := Lib.hid hst8; clear hst8))
        refine hK.out _ _ ?_ (fun hHeld => ?_)
        · (try dsimp only); (exact ⟨bkeep HN.out.bel x0, bkeep HN.out.bel x1⟩)
        clear hK K
        try simp only [List.getElem_toArray, List.getElem_cons_zero, List.getElem_cons_succ, Act.put, List.setIfInBounds_toArray, List.set_cons_zero, List.set_cons_succ]
        refine wpAnyH_done (by kernel_rfl) ?_ _
        exact REST _ _ _ _ _ (HST.out.join HN.out)
  intro gn av cv gO W hst
  have HST := Lib.hid hst
  clear hst x0 x1 HN HCL
  have hmm := @run_makeMap Try.prog
  go_wp2_with (fail)
  have HST := Lib.hid (HST.out.makeMap 100 3)
  clear hmm
  generalize hW2 : W.alloc (.map #[] 0) = W2 at *
  generalize W.heap.size = gm at *
  clear hW2
  go_wp2_with (fail)
  go_loopg [30] 256 (fun gk v wr => ∃ (bb n : Nat) (q : List (Ll.SV × List Int)) (D : DataW Unit), bb ≤ 256 ∧ gk = 256 - bb ∧ v = .int .i64 bb ∧ Hid (Pk.Seen rows bb q n D) ∧ St w wr (Pk.base w.heap.size gO gn cv b off cap gm n av v1 rows.length tags (Pk.ofP rows bb) q D))
  case atStart =>
    refine ⟨0, 0, List.replicate rows.length ((none, 0, 0), []), _, by omega, rfl, rfl, Lib.hid ⟨?_, Tells.nil, rfl, Nat.le_refl _⟩, ?_⟩
    · rw [List.map_replicate, show (Pk.run rows 0).1 = [] from rfl, Pk.nx_nil]
    · have e1 : ((List.replicate rows.length (((none, 0, 0), []) : Ll.SV × List Int)).map Prod.fst).map Ll.slV = List.replicate rows.length (.slice none 0 0) := by simp [Ll.slV]
      have h1 := (HST.out.pick (ρ := [aCel gO 36 (Pk.outA (List.replicate 256 0) (.slice (some ⟨gn, 0, none⟩) rows.length rows.length) (.slice av tags.length cv)), aMap 100 3 gm 0 (.map []), aOwn 23 1 (.slice (some ⟨gn, 0, none⟩) rows.length rows.length) (List.replicate rows.length (.slice none 0 0)), aOwn 3 1 (.slice av tags.length cv) (tags.map (Value.int .i64)), aCel (w.heap.size + 1) 36 Try.zeroCells36, aCel w.heap.size 25 #[.slice (some ⟨b, off, none⟩) rows.length cap, v1]]) [1, 0, 2, 3, 4, 5] 6 rfl rfl)
      have h2 := h1.push (A := aAll ((List.replicate rows.length (((none, 0, 0), []) : Ll.SV × List Int)).map Pk.aRow)) (Below.refl _ _) (fun A hA => by
        rw [List.map_replicate] at hA
        rw [List.eq_of_mem_replicate hA]
        exact Own.nil _ _ _ _) (fun x hx => by
        simp only [aAll, List.mem_flatMap] at hx
        obtain ⟨A, hA, hx⟩ := hx
        rw [List.map_replicate] at hA
        rw [List.eq_of_mem_replicate hA] at hx
        cases hx) (by
        have : (aAll ((List.replicate rows.length (((none, 0, 0), []) : Ll.SV × List Int)).map Pk.aRow)).fp = [] := by
          simp only [aAll, List.map_replicate]
          rw [List.flatMap_eq_nil_iff]
          intro A hA
          rw [List.eq_of_mem_replicate hA]
          rfl
        rw [this]; exact List.nodup_nil)
      unfold Pk.base
      rw [e1, Pk.ofP_zero]
      exact h2.pick [1, 2, 3, 0, 4, 5, 6] 7 rfl rfl
  case round =>
    clear HST
    obtain ⟨bb, n, q, D, hbb, hgk, rfl, HS, hst⟩ := hrel
    have HGK := Lib.hid hgk
    clear hgk
    by_cases hlt : bb < 256
    · have hbi : (bb : Int) < 256 := by omega
      have HST := Lib.hid (hst.alloc Try.zeroCells100 100)
      have y0 := (HST.out.at2 7 rfl).1
      clear hst
      go_wp2_with (fail)
      generalize hW3 : wr.alloc (.cells Try.zeroCells100 100) = W3 at *
      generalize wr.heap.size = gc at *
      clear hW3
      go_loopg [36] rows.length (fun gk v wr => ∃ (k : Nat), k ≤ rows.length ∧ gk = rows.length - k ∧ v = .int .i64 k ∧ St w wr (aCel gc 100 (Pk.colA (Pk.colP rows bb k)) :: Pk.base w.heap.size gO gn cv b off cap gm n av v1 rows.length tags (Pk.ofP rows bb) q D))
      case atStart =>
        have h1 := HST.out
        rw [← Pk.colA_zero] at h1
        exact ⟨0, by omega, by omega, rfl, by rw [Pk.colP_zero]; exact h1⟩
      case round =>
        clear HST y0
        obtain ⟨k, hk, hgk, rfl, hst⟩ := hrel
        have HGK2 := Lib.hid hgk
        clear hgk
        by_cases hlt2 : k < rows.length
        · have hrow := Lib.hid (rangeAt_below hst.bel (C4.out k hlt2))
          have hlen := Lib.hid (C5.out k hlt2)
          have HCS := Lib.hid (Pk.colP_step (b := bb) hlt2 h200)
          have HCL := Lib.hid (Pk.colP_len (rows := rows) (b := bb) hk h200)
          generalize rows.getD k [] = row at *
          have hstA := Lib.hid (hst.alloc Try.zeroCells92 92)
          clear hst
          go_wp2_with (first | (refine wpList_load_mid rfl 92 (.tmp 39) rfl b _ rfl (row.map (Value.int .i16)) _ hrow.out Try.underlying92 rfl (by rw [List.length_map, hlen.out.1]; kernel_rfl) ?_) | (refine St.rowOp rfl 92 (.tmp 10) (.tmp 40) rfl wr.heap.size (row.map (Value.int .i16)).toArray rfl rfl hstA.out (by simp only [List.size_toArray, List.length_map, hlen.out.1]; kernel_rfl) (by simp only [List.size_toArray, List.length_map, hlen.out.1]; kernel_rfl) (Pk.row_one _) ?_; intro w9 hst9; have z0 := hst9.celAt (i := bb) (Pk.row_at (by rw [hlen.out.1]; exact hlt)); have c0 := (hst9.nth 1 rfl).celAt (i := k) (Pk.row_at (l := Pk.colP rows bb k) (by rw [HCL.out]; omega)); have c1 := (hst9.nth 1 rfl).celFree k; have HST9 := Lib.hid hst9; clear hst9 hstA hrow))
          go_roundg (rows.length - (k + 1))
          case measure => have := HGK2.out; omega
          case rel =>
            refine ⟨k + 1, by omega, rfl, by go_num, ?_⟩
            have h1 := (HST9.out.pick (ρ := aCel gc 100 (Pk.colA (Pk.colP rows bb k)) :: Pk.base w.heap.size gO gn cv b off cap gm n av v1 rows.length tags (Pk.ofP rows bb) q D) [1, 2, 3, 4, 5, 6, 7, 8] 9 rfl rfl).setCel k (.int .i16 (row.getD bb 0))
            rw [Pk.colA_set, HCS.out] at h1
            exact h1
        · obtain rfl : rows.length = k := by omega
          have hfl := Pk.run_len rows bb
          have hple := Pk.place_le rows (Pk.run rows bb).1 bb
          have hcw := Pk.col_wf (b := bb) hlt C5.out
          have hcl := Pk.col_len h200 bb
          rw [Pk.colP_all] at hst
          obtain ⟨kl, hkl⟩ := arr_key Pk.akey Try.underlying90 Pk.tsz (Pk.col rows bb) hcl hcw
          have hhas := (HS.out.tells.2 (Pk.col rows bb) kl hkl).1
          have hnum := (HS.out.tells.2 (Pk.col rows bb) kl hkl).2
          rw [Pk.has_tab] at hhas
          have HOF := Lib.hid (Pk.ofP_step (rows := rows) hlt)
          have HOL := Lib.hid (Pk.ofP_len (rows := rows) (show bb ≤ 256 by omega))
          have HCL := Lib.hid hcl
          have HKL := Lib.hid hkl
          have HNUM := Lib.hid hnum
          have HCW := Lib.hid hcw
          clear hcl hkl hnum hcw
          have HST := Lib.hid hst
          have HOWN := Lib.hid (hst.nth 2 rfl).mapOwn
          clear hst
          by_cases hpl : Pk.place rows (Pk.run rows bb).1 bb = (Pk.run rows bb).1.length
          · rw [decide_eq_true hpl] at hhas
            simp only [Bool.not_true] at hhas
            have HPL := Lib.hid hpl
            have hsz := HS.out.size
            have HSN := Lib.hid HS.out.n
            have hput := HS.out.tells.put (Maps.Keyed.of_law Pk.akey.law) Pk.keyV_inj HKL.out (Pk.run rows bb).1.length
            have hsn := HS.out.tells.size_new HKL.out (by rw [HS.out.tells.2 (Pk.col rows bb) kl HKL.out |>.1.symm]; exact hhas) (Pk.run rows bb).1.length
            rw [hsz] at hsn
            rw [← Pk.tab_snoc] at hput
            have hq := HS.out.q
            rw [← Pk.nxK_zero rows (Pk.run rows bb).1 bb] at hq
            have HQ := Lib.hid hq
            have HRN := Lib.hid (Pk.run_new (rows := rows) HPL.out)
            clear hq
            clear hpl
            generalize hfs : (Pk.run rows bb).1 = fs at *
            have HFS := Lib.hid hfs
            have HPUT := Lib.hid hput
            have HSNW := Lib.hid hsn
            clear hfs hput hsn
            obtain ⟨hfl, -⟩ := hfl
            have hfl255 : (fs.length : Int) ≤ 255 := by omega
            have hfl0 : (0 : Int) ≤ fs.length := by omega
            have hnmax : n < 4096 := by have := HSN.out; omega
            clear hple
            go_wp2_with (first | (refine St.rowIn rfl 100 (.tmp 8) rfl gc rfl _ HST.out 0 rfl Try.underlying100 rfl (by simp only [Pk.colA, List.size_toArray, List.length_map, HCL.out]; kernel_rfl) ?_) | (at_lookup; refine wpList_lookup_own_ok_int _ rfl _ _ 99 rfl 100 3 .i64 (Maps.Keyed.of_law Pk.akey.law) Try.underlying99 Try.underlying3 (Pk.zeroE _) gm n D rfl HOWN.out (Pk.keyV (Pk.col rows bb)) kl rfl HKL.out ?_; intro c hat hwc; clear hat hwc) | (at_len; refine wpList_len_own _ rfl _ 99 rfl 100 3 Try.underlying99 _ gm n D rfl HOWN.out ?_) | (at_mapUpdate; refine wpList_mapUpdate_own _ rfl _ _ _ 99 rfl 100 3 (Maps.Keyed.of_law Pk.akey.law) Try.underlying99 (plainElem Try.prog 3) gm n D rfl HOWN.out (by unfold maxLen; omega) (Pk.keyV (Pk.col rows bb)) (.int .i64 (fs.length : Int)) kl rfl (by simp [Act.eval, hsz]) HKL.out (.lit (.int .i64 (fs.length : Int))) [] (plainElem_int Try.underlying3 (WalkArith.wf_i64 (by omega))) ?_; intro w7 hown7 hgrow7; have hst7 := (HST.out.pick (ρ := [aMap 100 3 gm n D, aCel gO 36 (Pk.outA (Pk.ofP rows bb) (.slice (some ⟨gn, 0, none⟩) rows.length rows.length) (.slice av tags.length cv)), aOwn 23 1 (.slice (some ⟨gn, 0, none⟩) rows.length rows.length) ((q.map Prod.fst).map Ll.slV), aAll (q.map Pk.aRow), aOwn 3 1 (.slice av tags.length cv) (tags.map (Value.int .i64)), aCel (w.heap.size + 1) 36 Try.zeroCells36, aCel w.heap.size 25 #[.slice (some ⟨b, off, none⟩) rows.length cap, v1]]) [2, 1, 3, 4, 5, 6, 7] 8 rfl rfl).mapPut hown7 hgrow7; have HST7 := Lib.hid (hst7.pick (ρ := Pk.base w.heap.size gO gn cv b off cap gm (n + 1) av v1 rows.length tags (Pk.ofP rows bb) q (D.put kl (.lit (.int .i64 (fs.length : Int))))) [1, 0, 2, 3, 4, 5, 6] 7 rfl rfl); have y0 := (HST7.out.at2 6 rfl).1; clear hst7 hown7 hgrow7 HOWN HST))
            go_loopg [63] rows.length (fun gk v wr => ∃ (k : Nat) (q : List (Ll.SV × List Int)), k ≤ rows.length ∧ gk = rows.length - k ∧ v = .int .i64 k ∧ Hid (q.map Prod.snd = Pk.nxK rows fs bb k) ∧ St w wr (Pk.base w.heap.size gO gn cv b off cap gm (n + 1) av v1 rows.length tags (Pk.ofP rows bb) q (D.put kl (.lit (.int .i64 (fs.length : Int))))))
            case atStart => exact ⟨0, q, by omega, by omega, rfl, HQ, HST7.out⟩
            case round =>
              clear HST7 y0 HQ
              obtain ⟨k, q, hk, hgk, rfl, HQ, hst⟩ := hrel
              have HGK2 := Lib.hid hgk
              clear hgk
              by_cases hlt2 : k < rows.length
              · have hrow := Lib.hid (rangeAt_below hst.bel (C4.out k hlt2))
                have hlen := Lib.hid (C5.out k hlt2)
                have HNS := Lib.hid (Pk.nxK_step (fs := fs) (b := bb) hlt2)
                have hqk : k < q.length := by have := congrArg List.length HQ.out; rw [List.length_map, Pk.nxK_len] at this; omega
                have hqs : (q.getD k ((none, 0, 0), [])).2 = Pk.pick fs (rows.getD k []) := by
                  rw [← Pk.nxK_get (b := bb) hlt2, ← HQ.out]
                  simp [List.getD, List.getElem?_eq_getElem hqk]
                have hqf : (q.map Prod.fst).getD k (none, 0, 0) = (q.getD k ((none, 0, 0), [])).1 := by
                  simp [List.getD, List.getElem?_eq_getElem hqk]
                have HQK := Lib.hid hqk; have HQS := Lib.hid hqs; have HQF := Lib.hid hqf
                clear hqk hqs hqf
                generalize rows.getD k [] = row at *
                have hxb := Aut.i16_bounds row bb (by rw [hlen.out.1]; exact hlt) hlen.out.2
                have hxw : IntKind.i64.wrap (row.getD bb 0) = row.getD bb 0 := IntWalk.i64_in _ (by omega)
                have hstA := Lib.hid (hst.alloc Try.zeroCells92 92)
                have y0 := (hst.at2 6 rfl).1
                clear hst
                obtain ⟨x, hx⟩ : ∃ x, x = row.getD bb 0 := ⟨_, rfl⟩
                rw [← hx] at hxb hxw
                have HX := Lib.hid hx
                clear hx
                obtain ⟨hx1, hx2⟩ := hxb
                obtain ⟨s, hs⟩ : ∃ s, s = (q.getD k ((none, 0, 0), [])).1 := ⟨_, rfl⟩
                have HSS := Lib.hid hs
                clear hs
                go_wp2_with (first | (refine wpList_load_mid rfl 92 (.tmp 66) rfl b _ rfl (row.map (Value.int .i16)) _ hrow.out Try.underlying92 rfl (by rw [List.length_map, hlen.out.1]; kernel_rfl) ?_) | (refine St.rowOp rfl 92 (.tmp 14) (.tmp 67) rfl wr.heap.size (row.map (Value.int .i16)).toArray rfl rfl hstA.out (by simp only [List.size_toArray, List.length_map, hlen.out.1]; kernel_rfl) (by simp only [List.size_toArray, List.length_map, hlen.out.1]; kernel_rfl) (Pk.row_one _) ?_; intro w9 hst9; have HST9 := Lib.hid hst9; clear hst9 hstA hrow))
                generalize wr.heap.size = gr at *
                have HSTD := Lib.hid HST9.out.drew
                have z0 : w9.drew.cell? ⟨gr, bb, none⟩ = some (.int .i16 x) := by rw [HX.out]; exact HSTD.out.celAt (i := bb) (Pk.row_at (by rw [hlen.out.1]; exact hlt))
                have o0 := (HSTD.out.nth 1 rfl).celAt (i := 256) (Pk.outA_next HOL.out)
                have r0 : w9.drew.cell? ⟨gn, k, none⟩ = some (.slice s.1 s.2.1 s.2.2) := by
                  rw [HSS.out, ← HQF.out]
                  exact ((show St w w9.drew [aOwn 23 1 (.slice (some ⟨gn, 0, none⟩) rows.length rows.length) ((q.map Prod.fst).map Ll.slV)] from HSTD.out.nth 3 rfl).cellOwn (f := Ll.slV) (fun _ => rfl) k (by rw [List.length_map]; exact HQK.out) (none, 0, 0)).1
                have o0a : (w9.drew.alloc (.cells #[.int .i64 x] 3)).cell? ⟨gO, 256, none⟩ = some (.slice (some ⟨gn, 0, none⟩) rows.length rows.length) := bkeep ((Below.refl _ _).alloc (Nat.le_refl _) _) o0
                have z0a : (w9.drew.alloc (.cells #[.int .i64 x] 3)).cell? ⟨gr, bb, none⟩ = some (.int .i16 x) := bkeep ((Below.refl _ _).alloc (Nat.le_refl _) _) z0
                have r0a : (w9.drew.alloc (.cells #[.int .i64 x] 3)).cell? ⟨gn, k, none⟩ = some (.slice s.1 s.2.1 s.2.2) := bkeep ((Below.refl _ _).alloc (Nat.le_refl _) _) r0
                have r0d : (w9.alloc (.cells #[.int .i64 x] 3)).cell? ⟨gn, k, none⟩ = some (.slice s.1 s.2.1 s.2.2) := r0a
                have HROW := Lib.hid (show St w w9.drew (aOwn 3 1 (.slice s.1 s.2.1 s.2.2) ((Pk.pick fs row).map Ll.iV) :: aAll ((q.eraseIdx k).map Pk.aRow) :: [aOwn 23 1 (.slice (some ⟨gn, 0, none⟩) rows.length rows.length) ((q.map Prod.fst).map Ll.slV), aCel gr 92 (row.map (Value.int .i16)).toArray, aCel gO 36 (Pk.outA (Pk.ofP rows bb) (.slice (some ⟨gn, 0, none⟩) rows.length rows.length) (.slice av tags.length cv)), aMap 100 3 gm (n + 1) (D.put kl (.lit (.int .i64 (fs.length : Int)))), aOwn 3 1 (.slice av tags.length cv) (tags.map (Value.int .i64)), aCel (w.heap.size + 1) 36 Try.zeroCells36, aCel w.heap.size 25 #[.slice (some ⟨b, off, none⟩) rows.length cap, v1]]) from by
                  have h1 := (HSTD.out.pick (ρ := aAll (q.map Pk.aRow) :: [aOwn 23 1 (.slice (some ⟨gn, 0, none⟩) rows.length rows.length) ((q.map Prod.fst).map Ll.slV), aCel gr 92 (row.map (Value.int .i16)).toArray, aCel gO 36 (Pk.outA (Pk.ofP rows bb) (.slice (some ⟨gn, 0, none⟩) rows.length rows.length) (.slice av tags.length cv)), aMap 100 3 gm (n + 1) (D.put kl (.lit (.int .i64 (fs.length : Int)))), aOwn 3 1 (.slice av tags.length cv) (tags.map (Value.int .i64)), aCel (w.heap.size + 1) 36 Try.zeroCells36, aCel w.heap.size 25 #[.slice (some ⟨b, off, none⟩) rows.length cap, v1]]) [4, 3, 0, 1, 2, 5, 6, 7] 8 rfl rfl).allTakeAt k HQK.out ((none, 0, 0), [])
                  unfold Pk.aRow at h1
                  rw [HQS.out, ← HSS.out] at h1
                  exact h1)
                have hpl : (Pk.pick fs row).length = fs.length := by simp [Pk.pick]
                have HPLN := Lib.hid hpl
                clear hpl
                have HEND := Lib.hid (fun (g' n' c' : Nat) (W : World) (h : St w W [aOwn 23 1 (.slice (some ⟨gn, 0, none⟩) rows.length rows.length) (((q.map Prod.fst).set k (some ⟨g', 0, none⟩, n', c')).map Ll.slV), aOwn 3 1 (.slice (some ⟨g', 0, none⟩) n' c') ((Pk.pick fs row).map Ll.iV ++ [.int .i64 x]), aAll ((q.eraseIdx k).map Pk.aRow), aCel gr 92 (row.map (Value.int .i16)).toArray, aCel gO 36 (Pk.outA (Pk.ofP rows bb) (.slice (some ⟨gn, 0, none⟩) rows.length rows.length) (.slice av tags.length cv)), aMap 100 3 gm (n + 1) (D.put kl (.lit (.int .i64 (fs.length : Int)))), aOwn 3 1 (.slice av tags.length cv) (tags.map (Value.int .i64)), aCel (w.heap.size + 1) 36 Try.zeroCells36, aCel w.heap.size 25 #[.slice (some ⟨b, off, none⟩) rows.length cap, v1]]) => (show St w W (Pk.base w.heap.size gO gn cv b off cap gm (n + 1) av v1 rows.length tags (Pk.ofP rows bb) (q.set k ((some ⟨g', 0, none⟩, n', c'), Pk.pick fs row ++ [x])) (D.put kl (.lit (.int .i64 (fs.length : Int))))) from by
                  have h1 := h.pick (ρ := aOwn 3 1 (.slice (some ⟨g', 0, none⟩) n' c') ((Pk.pick fs row).map Ll.iV ++ [.int .i64 x]) :: aAll ((q.eraseIdx k).map Pk.aRow) :: [aOwn 23 1 (.slice (some ⟨gn, 0, none⟩) rows.length rows.length) (((q.map Prod.fst).set k (some ⟨g', 0, none⟩, n', c')).map Ll.slV), aCel gO 36 (Pk.outA (Pk.ofP rows bb) (.slice (some ⟨gn, 0, none⟩) rows.length rows.length) (.slice av tags.length cv)), aMap 100 3 gm (n + 1) (D.put kl (.lit (.int .i64 (fs.length : Int)))), aOwn 3 1 (.slice av tags.length cv) (tags.map (Value.int .i64)), aCel (w.heap.size + 1) 36 Try.zeroCells36, aCel w.heap.size 25 #[.slice (some ⟨b, off, none⟩) rows.length cap, v1]]) [1, 2, 0, 4, 5, 6, 7, 8] 9 rfl rfl
                  have e1 : aOwn 3 1 (.slice (some ⟨g', 0, none⟩) n' c') ((Pk.pick fs row).map Ll.iV ++ [.int .i64 x]) = Pk.aRow ((some ⟨g', 0, none⟩, n', c'), Pk.pick fs row ++ [x]) := by
                    unfold Pk.aRow; rw [List.map_append]; rfl
                  rw [e1] at h1
                  have h2 := h1.allPutAt HQK.out
                  have e2 : (q.map Prod.fst).set k (some ⟨g', 0, none⟩, n', c') = (q.set k ((some ⟨g', 0, none⟩, n', c'), Pk.pick fs row ++ [x])).map Prod.fst := by rw [List.map_set]
                  rw [e2] at h2
                  exact h2.pick [2, 3, 1, 0, 4, 5, 6] 7 rfl rfl))
                have e0 : IntKind.i64.wrap x = x := hxw
                (try simp only [Act.put])
                refine wp_region_held_drew (S := (fun w' => w'.cell? ⟨gO, 256, none⟩ = some (.slice (some ⟨gn, 0, none⟩) rows.length rows.length) ∧ w'.cell? ⟨gr, bb, none⟩ = some (.int .i16 x))) (by kernel_rfl) ?_ (fun hHeld => ?_)
                · (try dsimp only); (first | exact ⟨o0, z0⟩ | exact ⟨o0a, z0a⟩ | exact ⟨o0b, z0b⟩ | exact ⟨o0c, z0c⟩)

                refine wpAnyH_take (i := 0) (v := ?_) rfl (by kernel_rfl) (by kernel_rfl) (by kernel_rfl) (fun _ _ _ h => h) (Or.inl ⟨by rfl, ?_⟩) (by assumption) ?_
                rotate_left; focus (intro w hSw; (try dsimp only at hSw); go_simp; try (with_reducible rfl); done)
                try simp only [List.getElem_toArray, List.getElem_cons_zero, List.getElem_cons_succ, Act.put, List.setIfInBounds_toArray, List.set_cons_zero, List.set_cons_succ]
                refine wpAnyH_take (i := 1) (v := ?_) rfl (by kernel_rfl) (by kernel_rfl) (by kernel_rfl) (fun _ _ _ h => h) (Or.inl ⟨by rfl, ?_⟩) (by assumption) ?_
                rotate_left; focus (intro w hSw; (try dsimp only at hSw); go_simp; try (with_reducible rfl); done)
                try simp only [List.getElem_toArray, List.getElem_cons_zero, List.getElem_cons_succ, Act.put, List.setIfInBounds_toArray, List.set_cons_zero, List.set_cons_succ]
                refine wpAnyH_take (i := 2) (v := ?_) rfl (by kernel_rfl) (by kernel_rfl) (by kernel_rfl) (fun _ _ _ h => h) (Or.inl ⟨by rfl, ?_⟩) (by assumption) ?_
                rotate_left; focus (intro w hSw; (try dsimp only at hSw); go_simp; try (with_reducible rfl); done)
                try simp only [List.getElem_toArray, List.getElem_cons_zero, List.getElem_cons_succ, Act.put, List.setIfInBounds_toArray, List.set_cons_zero, List.set_cons_succ]
                refine wpAnyH_take (i := 3) (v := ?_) rfl (by kernel_rfl) (by kernel_rfl) (by kernel_rfl) (fun _ _ _ h => h) (Or.inl ⟨by rfl, ?_⟩) (by assumption) ?_
                rotate_left; focus (intro w hSw; (try dsimp only at hSw); go_simp; try (with_reducible rfl); done)
                try simp only [List.getElem_toArray, List.getElem_cons_zero, List.getElem_cons_succ, Act.put, List.setIfInBounds_toArray, List.set_cons_zero, List.set_cons_succ]
                refine wpAnyH_take (i := 4) (v := ?_) rfl (by kernel_rfl) (by kernel_rfl) (by kernel_rfl) (fun _ _ _ h => h) (Or.inl ⟨by rfl, ?_⟩) (by assumption) ?_
                rotate_left; focus (intro w hSw; (try dsimp only at hSw); go_simp; try (with_reducible rfl); done)
                try simp only [List.getElem_toArray, List.getElem_cons_zero, List.getElem_cons_succ, Act.put, List.setIfInBounds_toArray, List.set_cons_zero, List.set_cons_succ]
                refine wpAnyH_take (i := 5) (v := ?_) rfl (by kernel_rfl) (by kernel_rfl) (by kernel_rfl) (fun _ _ _ h => h) (Or.inl ⟨by rfl, ?_⟩) (by assumption) ?_
                rotate_left; focus (intro w hSw; (try dsimp only at hSw); go_simp; try (with_reducible rfl); done)
                try simp only [List.getElem_toArray, List.getElem_cons_zero, List.getElem_cons_succ, Act.put, List.setIfInBounds_toArray, List.set_cons_zero, List.set_cons_succ]
                refine wpAnyH_take (i := 6) (v := ?_) rfl (by kernel_rfl) (by kernel_rfl) (by kernel_rfl) (fun _ _ _ h => h) (Or.inl ⟨by rfl, ?_⟩) (by assumption) ?_
                rotate_left; focus (intro w hSw; (try dsimp only at hSw); go_simp; try (with_reducible rfl); done)
                try simp only [List.getElem_toArray, List.getElem_cons_zero, List.getElem_cons_succ, Act.put, List.setIfInBounds_toArray, List.set_cons_zero, List.set_cons_succ]
                refine wpAnyH_take (i := 8) (v := ?_) rfl (by kernel_rfl) (by kernel_rfl) (by kernel_rfl) (fun _ _ _ h => h) (Or.inl ⟨by rfl, ?_⟩) (by assumption) ?_
                rotate_left; focus (intro w hSw; (try dsimp only at hSw); go_simp; try (with_reducible rfl); done)
                try simp only [List.getElem_toArray, List.getElem_cons_zero, List.getElem_cons_succ, Act.put, List.setIfInBounds_toArray, List.set_cons_zero, List.set_cons_succ]
                refine wpAnyH_take (i := 9) (v := ?_) rfl (by kernel_rfl) (by kernel_rfl) (by kernel_rfl) (fun _ _ _ h => h) (Or.inl ⟨by rfl, ?_⟩) (by assumption) ?_
                rotate_left; focus (intro w hSw; (try dsimp only at hSw); go_simp; try (with_reducible rfl); done)
                try simp only [List.getElem_toArray, List.getElem_cons_zero, List.getElem_cons_succ, Act.put, List.setIfInBounds_toArray, List.set_cons_zero, List.set_cons_succ]
                refine wpAnyH_take (i := 10) (v := ?_) rfl (by kernel_rfl) (by kernel_rfl) (by kernel_rfl) (fun _ _ _ h => h) (Or.inl ⟨by rfl, ?_⟩) (by assumption) ?_
                rotate_left; focus (intro w hSw; (try dsimp only at hSw); go_simp; try (with_reducible rfl); done)
                try simp only [List.getElem_toArray, List.getElem_cons_zero, List.getElem_cons_succ, Act.put, List.setIfInBounds_toArray, List.set_cons_zero, List.set_cons_succ]
                refine wpAnyH_take (i := 11) (v := ?_) rfl (by kernel_rfl) (by kernel_rfl) (by kernel_rfl) (fun _ _ _ h => h) (Or.inl ⟨by rfl, ?_⟩) (by assumption) ?_
                rotate_left; focus (intro w hSw; (try dsimp only at hSw); go_simp; try (with_reducible rfl); done)
                try simp only [List.getElem_toArray, List.getElem_cons_zero, List.getElem_cons_succ, Act.put, List.setIfInBounds_toArray, List.set_cons_zero, List.set_cons_succ]
                refine wpAnyH_ready (rs := [7, 12]) (by kernel_rfl) (by simp) ?_
                refine AllReadyH.cons rfl (fun K hK => ?_) (AllReadyH.cons rfl (fun K hK => ?_) (AllReadyH.nil))
                · skip
                  go_simp
                  refine hK.out _ _ ?_ (fun hHeld => ?_)
                  · (try dsimp only); (first | exact ⟨o0, z0⟩ | exact ⟨o0a, z0a⟩ | exact ⟨o0b, z0b⟩ | exact ⟨o0c, z0c⟩)
                  clear hK K
                  try simp only [List.getElem_toArray, List.getElem_cons_zero, List.getElem_cons_succ, Act.put, List.setIfInBounds_toArray, List.set_cons_zero, List.set_cons_succ]
                  refine wpAnyH_ready (rs := [12]) (by kernel_rfl) (by simp) ?_
                  refine AllReadyH.cons rfl (fun K hK => ?_) (AllReadyH.nil)
                  go_simp
                  refine hK.out _ _ ?_ (fun hHeld => ?_)
                  · (try dsimp only); (first | exact ⟨o0, z0⟩ | exact ⟨o0a, z0a⟩ | exact ⟨o0b, z0b⟩ | exact ⟨o0c, z0c⟩)
                  clear hK K
                  try simp only [List.getElem_toArray, List.getElem_cons_zero, List.getElem_cons_succ, Act.put, List.setIfInBounds_toArray, List.set_cons_zero, List.set_cons_succ]
                  refine wpAnyH_ready (rs := [13]) (by kernel_rfl) (by simp) ?_
                  refine AllReadyH.cons rfl (fun K hK => ?_) AllReadyH.nil
                  (refine St.step1n (W := w9.drew) (T := 3) (cs := #[.int .i64 x]) intE rfl (.tmp 75) (.tmp 80) rfl rfl HROW.out (.int .i64 x) rfl w9.drew.heap.size 1 rfl rfl rfl (by intro q hq; simp [Value.cells] at hq; subst hq; rfl) (by rw [List.length_map, HPLN.out]; unfold maxLen; omega) (by rw [List.length_map, HPLN.out]; omega) ?_; intro g' n' c' wB hstB; have hstB := (hstB.pick (ρ := [aOwn 23 1 (.slice (some ⟨gn, 0, none⟩) rows.length rows.length) ((q.map Prod.fst).map Ll.slV), aOwn 3 1 (.slice (some ⟨g', 0, none⟩) n' c') ((Pk.pick fs row).map Ll.iV ++ [.int .i64 x]), aAll ((q.eraseIdx k).map Pk.aRow), aCel gr 92 (row.map (Value.int .i16)).toArray, aCel gO 36 (Pk.outA (Pk.ofP rows bb) (.slice (some ⟨gn, 0, none⟩) rows.length rows.length) (.slice av tags.length cv)), aMap 100 3 gm (n + 1) (D.put kl (.lit (.int .i64 (fs.length : Int)))), aOwn 3 1 (.slice av tags.length cv) (tags.map (Value.int .i64)), aCel (w.heap.size + 1) 36 Try.zeroCells36, aCel w.heap.size 25 #[.slice (some ⟨b, off, none⟩) rows.length cap, v1]]) [2, 0, 1, 3, 4, 5, 6, 7, 8] 9 rfl rfl); obtain ⟨r1, r2⟩ := (show St w wB (aOwn 23 1 (.slice (some ⟨gn, 0, none⟩) rows.length rows.length) ((q.map Prod.fst).map Ll.slV) :: _) from hstB).cellOwn (f := Ll.slV) (fun _ => rfl) k (by rw [List.length_map]; exact HQK.out) (none, 0, 0); have o0b := (hstB.nth 4 rfl).celAt (i := 256) (Pk.outA_next HOL.out); have z0b : wB.cell? ⟨gr, bb, none⟩ = some (.int .i16 x) := (by rw [HX.out]; exact (hstB.nth 3 rfl).celAt (i := bb) (Pk.row_at (by rw [hlen.out.1]; exact hlt))); have hstC := hstB.setOwn (f := Ll.slV) (fun _ => rfl) k (some ⟨g', 0, none⟩, n', c'); have o0c := (hstC.nth 4 rfl).celAt (i := 256) (Pk.outA_next HOL.out); have z0c : (wB.setCell ⟨gn, k, none⟩ (Ll.slV (some ⟨g', 0, none⟩, n', c'))).cell? ⟨gr, bb, none⟩ = some (.int .i16 x) := (by rw [HX.out]; exact (hstC.nth 3 rfl).celAt (i := bb) (Pk.row_at (by rw [hlen.out.1]; exact hlt))); have HSTC := Lib.hid hstC; clear hstB hstC)
                  refine hK.out _ _ ?_ (fun hHeld => ?_)
                  · (try dsimp only); (first | exact ⟨o0, z0⟩ | exact ⟨o0a, z0a⟩ | exact ⟨o0b, z0b⟩ | exact ⟨o0c, z0c⟩)
                  clear hK K
                  try simp only [List.getElem_toArray, List.getElem_cons_zero, List.getElem_cons_succ, Act.put, List.setIfInBounds_toArray, List.set_cons_zero, List.set_cons_succ]
                  refine wpAnyH_take (i := 14) (v := ?_) rfl (by kernel_rfl) (by kernel_rfl) (by kernel_rfl) (fun _ _ _ h => h) (Or.inl ⟨by rfl, ?_⟩) (by assumption) ?_
                  rotate_left; focus (intro w hSw; (try dsimp only at hSw); go_simp; try (with_reducible rfl); done)
                  try simp only [List.getElem_toArray, List.getElem_cons_zero, List.getElem_cons_succ, Act.put, List.setIfInBounds_toArray, List.set_cons_zero, List.set_cons_succ]
                  refine wpAnyH_ready (rs := [15]) (by kernel_rfl) (by simp) ?_
                  refine AllReadyH.cons rfl (fun K hK => ?_) AllReadyH.nil
                  go_simp
                  refine hK.out _ _ ?_ (fun hHeld => ?_)
                  · (try dsimp only); (first | exact ⟨o0, z0⟩ | exact ⟨o0a, z0a⟩ | exact ⟨o0b, z0b⟩ | exact ⟨o0c, z0c⟩)
                  clear hK K
                  try simp only [List.getElem_toArray, List.getElem_cons_zero, List.getElem_cons_succ, Act.put, List.setIfInBounds_toArray, List.set_cons_zero, List.set_cons_succ]
                  refine wpAnyH_done (by kernel_rfl) ?_ _
                  (go_wp2; go_roundg (rows.length - (k + 1)); (case measure => have := HGK2.out; omega); (case rel => exact ⟨k + 1, q.set k ((some ⟨g', 0, none⟩, n', c'), Pk.pick fs row ++ [x]), by omega, rfl, by go_num, Lib.hid (by rw [List.map_set, HQ.out, HX.out]; exact HNS.out), HEND.out _ _ _ _ HSTC.out⟩))
                · skip
                  go_simp
                  refine hK.out _ _ ?_ (fun hHeld => ?_)
                  · (try dsimp only); (first | exact ⟨o0, z0⟩ | exact ⟨o0a, z0a⟩ | exact ⟨o0b, z0b⟩ | exact ⟨o0c, z0c⟩)
                  clear hK K
                  try simp only [List.getElem_toArray, List.getElem_cons_zero, List.getElem_cons_succ, Act.put, List.setIfInBounds_toArray, List.set_cons_zero, List.set_cons_succ]
                  refine wpAnyH_ready (rs := [7]) (by kernel_rfl) (by simp) ?_
                  refine AllReadyH.cons rfl (fun K hK => ?_) (AllReadyH.nil)
                  go_simp
                  refine hK.out _ _ ?_ (fun hHeld => ?_)
                  · (try dsimp only); (first | exact ⟨o0, z0⟩ | exact ⟨o0a, z0a⟩ | exact ⟨o0b, z0b⟩ | exact ⟨o0c, z0c⟩)
                  clear hK K
                  try simp only [List.getElem_toArray, List.getElem_cons_zero, List.getElem_cons_succ, Act.put, List.setIfInBounds_toArray, List.set_cons_zero, List.set_cons_succ]
                  refine wpAnyH_ready (rs := [13]) (by kernel_rfl) (by simp) ?_
                  refine AllReadyH.cons rfl (fun K hK => ?_) AllReadyH.nil
                  (refine St.step1n (W := w9.drew) (T := 3) (cs := #[.int .i64 x]) intE rfl (.tmp 75) (.tmp 80) rfl rfl HROW.out (.int .i64 x) rfl w9.drew.heap.size 1 rfl rfl rfl (by intro q hq; simp [Value.cells] at hq; subst hq; rfl) (by rw [List.length_map, HPLN.out]; unfold maxLen; omega) (by rw [List.length_map, HPLN.out]; omega) ?_; intro g' n' c' wB hstB; have hstB := (hstB.pick (ρ := [aOwn 23 1 (.slice (some ⟨gn, 0, none⟩) rows.length rows.length) ((q.map Prod.fst).map Ll.slV), aOwn 3 1 (.slice (some ⟨g', 0, none⟩) n' c') ((Pk.pick fs row).map Ll.iV ++ [.int .i64 x]), aAll ((q.eraseIdx k).map Pk.aRow), aCel gr 92 (row.map (Value.int .i16)).toArray, aCel gO 36 (Pk.outA (Pk.ofP rows bb) (.slice (some ⟨gn, 0, none⟩) rows.length rows.length) (.slice av tags.length cv)), aMap 100 3 gm (n + 1) (D.put kl (.lit (.int .i64 (fs.length : Int)))), aOwn 3 1 (.slice av tags.length cv) (tags.map (Value.int .i64)), aCel (w.heap.size + 1) 36 Try.zeroCells36, aCel w.heap.size 25 #[.slice (some ⟨b, off, none⟩) rows.length cap, v1]]) [2, 0, 1, 3, 4, 5, 6, 7, 8] 9 rfl rfl); obtain ⟨r1, r2⟩ := (show St w wB (aOwn 23 1 (.slice (some ⟨gn, 0, none⟩) rows.length rows.length) ((q.map Prod.fst).map Ll.slV) :: _) from hstB).cellOwn (f := Ll.slV) (fun _ => rfl) k (by rw [List.length_map]; exact HQK.out) (none, 0, 0); have o0b := (hstB.nth 4 rfl).celAt (i := 256) (Pk.outA_next HOL.out); have z0b : wB.cell? ⟨gr, bb, none⟩ = some (.int .i16 x) := (by rw [HX.out]; exact (hstB.nth 3 rfl).celAt (i := bb) (Pk.row_at (by rw [hlen.out.1]; exact hlt))); have hstC := hstB.setOwn (f := Ll.slV) (fun _ => rfl) k (some ⟨g', 0, none⟩, n', c'); have o0c := (hstC.nth 4 rfl).celAt (i := 256) (Pk.outA_next HOL.out); have z0c : (wB.setCell ⟨gn, k, none⟩ (Ll.slV (some ⟨g', 0, none⟩, n', c'))).cell? ⟨gr, bb, none⟩ = some (.int .i16 x) := (by rw [HX.out]; exact (hstC.nth 3 rfl).celAt (i := bb) (Pk.row_at (by rw [hlen.out.1]; exact hlt))); have HSTC := Lib.hid hstC; clear hstB hstC)
                  refine hK.out _ _ ?_ (fun hHeld => ?_)
                  · (try dsimp only); (first | exact ⟨o0, z0⟩ | exact ⟨o0a, z0a⟩ | exact ⟨o0b, z0b⟩ | exact ⟨o0c, z0c⟩)
                  clear hK K
                  try simp only [List.getElem_toArray, List.getElem_cons_zero, List.getElem_cons_succ, Act.put, List.setIfInBounds_toArray, List.set_cons_zero, List.set_cons_succ]
                  refine wpAnyH_take (i := 14) (v := ?_) rfl (by kernel_rfl) (by kernel_rfl) (by kernel_rfl) (fun _ _ _ h => h) (Or.inl ⟨by rfl, ?_⟩) (by assumption) ?_
                  rotate_left; focus (intro w hSw; (try dsimp only at hSw); go_simp; try (with_reducible rfl); done)
                  try simp only [List.getElem_toArray, List.getElem_cons_zero, List.getElem_cons_succ, Act.put, List.setIfInBounds_toArray, List.set_cons_zero, List.set_cons_succ]
                  refine wpAnyH_ready (rs := [15]) (by kernel_rfl) (by simp) ?_
                  refine AllReadyH.cons rfl (fun K hK => ?_) AllReadyH.nil
                  go_simp
                  refine hK.out _ _ ?_ (fun hHeld => ?_)
                  · (try dsimp only); (first | exact ⟨o0, z0⟩ | exact ⟨o0a, z0a⟩ | exact ⟨o0b, z0b⟩ | exact ⟨o0c, z0c⟩)
                  clear hK K
                  try simp only [List.getElem_toArray, List.getElem_cons_zero, List.getElem_cons_succ, Act.put, List.setIfInBounds_toArray, List.set_cons_zero, List.set_cons_succ]
                  refine wpAnyH_done (by kernel_rfl) ?_ _
                  (go_wp2; go_roundg (rows.length - (k + 1)); (case measure => have := HGK2.out; omega); (case rel => exact ⟨k + 1, q.set k ((some ⟨g', 0, none⟩, n', c'), Pk.pick fs row ++ [x]), by omega, rfl, by go_num, Lib.hid (by rw [List.map_set, HQ.out, HX.out]; exact HNS.out), HEND.out _ _ _ _ HSTC.out⟩))
              · obtain rfl : rows.length = k := by omega
                have hq := HQ.out
                rw [Pk.nxK_all] at hq
                have HQ2 := Lib.hid hq
                have HST := Lib.hid hst
                have o0 := (hst.nth 0 rfl).celAt (i := bb) (Pk.outA_get (by rw [HOL.out]; exact hlt))
                have o1 := (hst.nth 0 rfl).celFree bb
                have hm : (fs.length : Int) % 256 = fs.length := by omega
                clear hq hst HQ
                go_wp2
                go_roundg (256 - (bb + 1))
                case measure => have := HGK.out; omega
                case rel =>
                  refine ⟨bb + 1, n + 1, q, D.put kl (.lit (.int .i64 (fs.length : Int))), by omega, rfl, by go_num, Lib.hid ⟨by rw [HRN.out]; exact HQ2.out, by rw [HRN.out]; exact HPUT.out, by rw [HRN.out, HSNW.out]; simp, by have := HSN.out; omega⟩, ?_⟩
                  have h1 := HST.out.setCel bb (.int .u8 (fs.length : Int))
                  rw [Pk.outA_set (by rw [HOL.out]; exact hlt), ← HPL.out, HOF.out] at h1
                  rw [← HPL.out]
                  exact h1
          · rw [decide_eq_false hpl] at hhas
            simp only [Bool.not_false] at hhas
            have HPL := Lib.hid hpl
            have hsz := HS.out.size
            have HNT := Lib.hid (Pk.num_tab rows (Pk.run rows bb).1 (Pk.apart_run rows bb) bb hpl)
            clear hpl
            generalize hP : Pk.place rows (Pk.run rows bb).1 bb = pl at *
            have HP := Lib.hid hP
            have hpl255 : (pl : Int) ≤ 255 := by have := HPL.out; omega
            have hpl0 : (0 : Int) ≤ pl := by omega
            clear hP hsz hfl hple
            have o0 := (HST.out.nth 1 rfl).celAt (i := bb) (Pk.outA_get (by rw [HOL.out]; exact hlt))
            have o1 := (HST.out.nth 1 rfl).celFree bb
            go_wp2_with (first | (refine St.rowIn rfl 100 (.tmp 8) rfl gc rfl _ HST.out 0 rfl Try.underlying100 rfl (by simp only [Pk.colA, List.size_toArray, List.length_map, HCL.out]; kernel_rfl) ?_) | (at_lookup; refine wpList_lookup_own_ok_int _ rfl _ _ 99 rfl 100 3 .i64 (Maps.Keyed.of_law Pk.akey.law) Try.underlying99 Try.underlying3 (Pk.zeroE _) gm n D rfl HOWN.out (Pk.keyV (Pk.col rows bb)) kl rfl HKL.out ?_; intro c hat hwc))
            go_roundg (256 - (bb + 1))
            case measure => have := HGK.out; omega
            case rel =>
              have hc : c = (pl : Int) := by
                have h1 := hat.symm.trans HNUM.out
                rw [HNT.out] at h1
                simpa using h1
              rw [hc]
              have hm : (pl : Int) % 256 = pl := by omega
              rw [hm]
              have hrun := Pk.run_old (rows := rows) (b := bb) (by rw [HP.out]; exact HPL.out)
              refine ⟨bb + 1, n, q, D, by omega, rfl, by go_num, Lib.hid ⟨by rw [hrun]; exact HS.out.q, by rw [hrun]; exact HS.out.tells, by rw [hrun]; exact HS.out.size, by have := HS.out.n; omega⟩, ?_⟩
              have h1 := (HST.out.drop).setCel bb (.int .u8 (pl : Int))
              rw [Pk.outA_set (by rw [HOL.out]; exact hlt), HOF.out] at h1
              exact h1
    · obtain rfl : bb = 256 := by omega
      have hol := Pk.ofP_len (rows := rows) (Nat.le_refl 256)
      have HOL := Lib.hid hol
      have HST := Lib.hid hst
      have HZP := Lib.hid (hst.pick (ρ := [aCel (w.heap.size + 1) 36 Try.zeroCells36, aOwn 23 1 (.slice (some ⟨gn, 0, none⟩) rows.length rows.length) ((q.map Prod.fst).map Ll.slV), aAll (q.map Pk.aRow), aOwn 3 1 (.slice av tags.length cv) (tags.map (Value.int .i64))]) [5, 2, 3, 4] 7 rfl rfl)
      have HS2 := Lib.hid (show (Pk.outA (Pk.ofP rows 256) (.slice (some ⟨gn, 0, none⟩) rows.length rows.length) (.slice av tags.length cv)).size = 258 from Pk.outA_size hol)
      clear hst hol
      go_wp2_with (first | (refine St.rowIn rfl 36 (.tmp 5) rfl gO rfl _ HST.out 0 rfl Try.underlying36 rfl (by rw [HS2.out]; exact pkInfo) ?_) | (refine St.rowOp rfl 36 (.tmp 2) (.tmp 90) rfl (w.heap.size + 1) _ rfl rfl HZP.out (by rw [HS2.out]; exact pkInfo) (by rw [HS2.out, HZ.out]) (Pk.outA_one _ _ _ rfl rfl) ?_; intro w9 hst9; have HST9 := Lib.hid hst9; clear hst9 HST HZP))
      refine bodyPost_ret (results_row_tmp rfl _ _ (w.heap.size + 1) 36 _ _ rfl (HST9.out.heapAt 0 rfl) Try.underlying36 rfl (by rw [HS2.out]; exact pkInfo)) rfl ?_
      exact ⟨gn, _, q, rfl, Lib.hid HS.out.q, HST9.out.pick [1, 2, 3] 4 rfl rfl⟩
end Go.Proofs.Ytbpjmdemmmdnbaa
