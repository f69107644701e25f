/-
  Parts of the proof of RexMatches, put together: RmEnds. (Helper texts.)
-/
import Derived.Test.YtfelikfppjlcmaaDoorG3

/-
  ends of package rex: the ends of what a node matches from a place on.
-/
namespace Go.Proofs.YtfelikfppjlcmaaDoor
set_option linter.unusedVariables false
set_option linter.unusedSimpArgs false
open Go.ChangeShapes Go.WideShapes Go.ChangeAt Go.RowKit

section
variable {w0 w : World} {μ : List Asrt} {E : Nat → Nat → List Nat} {g : Nat} {t : TypeId} {ops : Array Oper} {o : Oper} {a : Act} {K : Act → World → Prop} {Q : Exit → Act → World → Prop} {EE : Prop}
theorem St.stepMemo2 (hgd : o.guard = none) (m x : Operand) (hop : o.op = Op.lookup t m x true) (ht : Tryd.prog.underlying t = some (.map 122 24)) (h : St w0 w (aMemo E g :: μ)) (hE : ∀ i j, Dm.Ok4 (E i j)) (hm : a.eval m = .map (some g)) (q i : Nat) (hx : a.eval x = .agg #[.int .i64 (q : Int), .int .i64 (i : Int)]) {kl : Lit} (hkey : keyOf Tryd.prog 122 (.agg #[.int .i64 (q : Int), .int .i64 (i : Int)]) = some kl)
    (hK : ∀ (hit : Bool) (v0 v1 v2 v3 : Nat), (if hit = true then E q i else Dm.zero) = [v0, v1, v2, v3] → K (a.put o.dst (.tuple #[.agg #[.int .u64 v0, .int .u64 v1, .int .u64 v2, .int .u64 v3], .bool hit])) w) : if Region.wanted o (yielded ops a.tmps) = true then Oper.wp Tryd.prog o a w K Q else EE := by
  refine St.stepMemo hgd m x hop ht h hE hm (q, i) hx hkey fun hit => ?_
  have hok : Dm.Ok4 (if hit = true then E q i else Dm.zero) := by split; exact hE q i; exact Dm.ok_zero
  obtain ⟨v0, v1, v2, v3, hv⟩ := Cs.okFour hok
  have := hK hit v0 v1 v2 v3 hv
  rw [show Cs.clV (if hit = true then E ((q, i) : Memo.Key).1 ((q, i) : Memo.Key).2 else Dm.zero) = .agg #[.int .u64 v0, .int .u64 v1, .int .u64 v2, .int .u64 v3] from by rw [show (if hit = true then E ((q, i) : Memo.Key).1 ((q, i) : Memo.Key).2 else Dm.zero) = [v0, v1, v2, v3] from hv]; rfl]
  exact this
theorem St.stepMemoPut2 (hgd : o.guard = none) (m x v : Operand) (hop : o.op = Op.mapUpdate t m x v) (ht : Tryd.prog.underlying t = some (.map 122 24)) (h : St w0 w (aMemo E g :: μ)) (hE : ∀ i j, Dm.Ok4 (E i j)) (hm : a.eval m = .map (some g)) (q i : Nat) (h1 : q < 100) (h2 : i ≤ 200) (hx : a.eval x = .agg #[.int .i64 (q : Int), .int .i64 (i : Int)]) {kl : Lit} (hkey : keyOf Tryd.prog 122 (.agg #[.int .i64 (q : Int), .int .i64 (i : Int)]) = some kl) (u0 u1 u2 u3 : Nat) (hu : E q i = [u0, u1, u2, u3]) (hv : a.eval v = .agg #[.int .u64 u0, .int .u64 u1, .int .u64 u2, .int .u64 u3])
    (hK : ∀ w', St w0 w' (aMemo E g :: μ) → K (a.put o.dst undef) w') : if Region.wanted o (yielded ops a.tmps) = true then Oper.wp Tryd.prog o a w K Q else EE :=
  St.stepMemoPut hgd m x v hop ht h hE hm (q, i) h1 h2 hx hkey (hv.trans (by rw [show E ((q, i) : Memo.Key).1 ((q, i) : Memo.Key).2 = [u0, u1, u2, u3] from hu]; rfl)) hK
end
namespace Rm
theorem shareM {P A : Bool → Nat → Nat → Nat → Nat → Nat → World → Prop} {G : Prop} (h1 : (∀ h a b c d g W, A h a b c d g W → P h a b c d g W) → G) (h2 : ∀ h a b c d g W, A h a b c d g W → P h a b c d g W) : G := h1 h2
theorem shareW {P A : Nat → World → Prop} {G : Prop} (h1 : (∀ g W, A g W → P g W) → G) (h2 : ∀ g W, A g W → P g W) : G := h1 h2
/-- The byte at a place. -/
def bt (s : ByteArray) (i : Nat) : Nat := (s.data.toList.getD i 0).toNat
theorem bt_get (s : ByteArray) (i : Nat) (h : i < s.size) : (((s[i]'h).toNat : Nat) : Int) = (bt s i : Int) := by
  have hjd : i < s.data.size := h
  unfold bt
  congr 2
  simp [List.getD, ByteArray.getElem_eq_getElem_data, Array.getElem?_eq_getElem hjd]
theorem bt_lt (s : ByteArray) (i : Nat) : bt s i < 256 := by unfold bt; exact UInt8.toNat_lt _
theorem rng_eq (lo hi : Int) : (Cs.of fun x => decide (lo ≤ (x : Int) ∧ (x : Int) ≤ hi)) = Cs.of fun x => decide (lo ≤ (x : Int)) && decide ((x : Int) ≤ hi) := Cs.of_congr fun x _ => by rw [Bool.decide_and]
theorem cls4 {w0 w : World} {μ : List Asrt} {g : Nat} {T : TypeId} {v0 v1 v2 v3 : Value} (h : St w0 w μ) (i : Nat) (hA : μ[i]? = some (aCel g T #[v0, v1, v2, v3])) : w.cell? ⟨g, 0, none⟩ = some v0 ∧ w.cell? ⟨g, 1, none⟩ = some v1 ∧ w.cell? ⟨g, 2, none⟩ = some v2 ∧ w.cell? ⟨g, 3, none⟩ = some v3 :=
  ⟨(h.nth i hA).celAt rfl, (h.nth i hA).celAt rfl, (h.nth i hA).celAt rfl, (h.nth i hA).celAt rfl⟩
theorem rng_self (i : Nat) : (Cs.of fun x => decide ((i : Int) ≤ (x : Int)) && decide ((x : Int) ≤ (i : Int))) = Cs.of fun x => decide (i = x) := Cs.of_congr fun x _ => by
  rw [Bool.eq_iff_iff, Bool.and_eq_true, decide_eq_true_eq, decide_eq_true_eq, decide_eq_true_eq]
  omega
theorem ok_inv {c : List Nat} (hc : Dm.Ok4 c) : Dm.Ok4 (Cs.inv c) := by rw [Cs.inv_eq hc]; exact Cs.ok_of _
theorem meet_less {p c : List Nat} (hp : Dm.Ok4 p) (hc : Dm.Ok4 c) : Cs.zip (· &&& ·) p (Cs.inv c) = less p c := by
  rw [Cs.and_eq hp (ok_inv hc)]
  exact Cs.of_congr fun x hx => by rw [Cs.inv_eq hc, Cs.mem_of hx]
theorem join_eq {p c : List Nat} (hp : Dm.Ok4 p) (hc : Dm.Ok4 c) : join p c = Cs.zip (· ||| ·) p c := (Cs.or_eq hp hc).symm
def EndsF (w0 : World) (E : Nat → Nat → List Nat) (gm gs : Nat) (s : ByteArray) (w1 : World) (fp : List Nat) (f : Nat) : Prop :=
  ∀ (t : Rx) (q : Nat) (cs : Array Value), (Nm.enc f).R (fun b => b ∈ fp) w1 cs.toList (t, q) → Rx.good f t → q + Rx.cnt f t ≤ 100 → Fits s.size (bt s) E f t q → Ends w0 E gm gs s w1 fp cs fun i => en s.size (bt s) f t i
end Rm

set_option maxRecDepth 100000 in
set_option maxHeartbeats 8000000 in
theorem rxEnds_step (w0 : World) (hT : Tz.Tab w0) (E : Nat → Nat → List Nat) (hE : ∀ i j, Dm.Ok4 (E i j)) (gm gs : Nat) (s : ByteArray) (hs : s.size ≤ 200) (w1 : World) (fp : List Nat) (f : Nat) (ih : Rm.EndsF w0 E gm gs s w1 fp f) : Rm.EndsF w0 E gm gs s w1 fp (f + 1) := by
  intro t q cs hR hg hq hF i μ W hi hst
  obtain ⟨f', hf, xa, xl, xc, vk, hcs, hok, hk⟩ := Nm.opened hR
  obtain rfl : f = f' := by omega
  obtain ⟨a0, a1, a2, a3, hws⟩ := Cs.okFour hok
  obtain ⟨ak, bk, ok, ck, rfl, k3, k4⟩ := Nm.kidsAt hk
  have hcs2 : cs = #[.int .i64 t.kind, .int .u64 a0, .int .u64 a1, .int .u64 a2, .int .u64 a3, .slice xa xl xc, .int .i64 (q : Int), .slice ak t.kids.length ck] := by
    apply Array.toList_inj.1
    rw [hcs, Nm.cel, hws]; rfl
  subst hcs2
  obtain ⟨hE0, hFk⟩ := hF
  have hcq := Rx.cnt_pos (f + 1) t
  obtain ⟨lit, hkey⟩ := Memo.key (q, i) (by show q ≤ 1000; omega) (by show i ≤ 1000; omega)
  have hst2 := ((hst.alloc #[.int .i64 t.kind, .int .u64 a0, .int .u64 a1, .int .u64 a2, .int .u64 a3, .slice xa xl xc, .int .i64 (q : Int), .slice ak t.kids.length ck] 64).alloc #[.int .u64 0, .int .u64 0, .int .u64 0, .int .u64 0] 24).alloc #[.int .i64 (q : Int), .int .i64 (i : Int)] 122
  simp only [World.size_alloc] at hst2
  have HST := Lib.hid (hst2.pick [3, 4, 5, 0, 1, 2] 6 rfl rfl).drew
  have hkn := Rx.good_kind hg
  have HKN := Lib.hid (show ((t.kind = 2 ∧ t.kids.length = 0) ∨ (t.kind = 1 ∧ t.kids.length = 0)) ∨ (t.kind = 3 ∧ t.kids.length = 0) ∨ (t.kind = 6 ∧ t.kids.length = 1) ∨ (t.kind = 4 ∧ t.kids.length = 2) ∨ (t.kind = 5 ∧ t.kids.length = 2) by
    rcases hkn with ⟨h1, h2, _⟩ | ⟨h1, h2, _⟩ | ⟨h1, h2, _⟩ | ⟨h1, h2, _⟩
    · have : t.kids.length = 0 := by rw [h2]; rfl
      omega
    · have : t.kids.length = 0 := by rw [h2]; rfl
      omega
    · omega
    · omega)
  have HKL := Lib.hid (show keyOf Tryd.prog 122 (.agg #[.int .i64 (q : Int), .int .i64 (i : Int)]) = some lit from hkey)
  have HOK := Lib.hid hok; have HWS := Lib.hid hws; have HEI := Lib.hid (hE0 i)
  have K3 := Lib.hid k3; have K4 := Lib.hid k4; have IH := Lib.hid ih; have HTT := Lib.hid hT; have HEE := Lib.hid hE
  have HKC := Lib.hid (fun j (hj : j < t.kids.length) => (show Rx.good f (t.kids.getD j Rx.nil) ∧ (q + 1 + Nm.sumK f (t.kids.take j)) + Rx.cnt f (t.kids.getD j Rx.nil) ≤ 100 ∧ Rm.Fits s.size (Rm.bt s) E f (t.kids.getD j Rx.nil) (q + 1 + Nm.sumK f (t.kids.take j)) from ⟨Rcs.good_kid hg hj, by
    have h1 := Rm.sum_at f t.kids j hj
    rw [Nm.cnt_kids] at hq
    omega, hFk j hj⟩))
  have HALT := Lib.hid (fun h => Rm.en_alt (n := s.size) (B := Rm.bt s) (f := f) (t := t) (i := i) h)
  have HCAT := Lib.hid (fun h => Rm.en_cat (n := s.size) (B := Rm.bt s) hs (f := f) (t := t) (i := i) h)
  have HSTR := Lib.hid (fun h => Rm.en_star (n := s.size) (B := Rm.bt s) (f := f) (t := t) (i := i) h)
  have HEMP := Lib.hid (fun h => Rm.en_empty (n := s.size) (B := Rm.bt s) (f := f) (t := t) (i := i) h)
  have HBYT := Lib.hid (fun h => Rm.en_byte (n := s.size) (B := Rm.bt s) (f := f) (t := t) (i := i) h)
  have HNON := Lib.hid (fun h => Rm.en_none (n := s.size) (B := Rm.bt s) (f := f) (t := t) (i := i) h)
  have hqq : q < 100 := by omega
  have hii : i ≤ 200 := by omega
  rw [hws] at HBYT HOK
  clear hst hst2 hkn hkey hok hk k3 k4 ih hT hE hE0 hFk hR hg hq hws hcs hf hcq
  simp only
  obtain ⟨S, hS⟩ : ∃ S, Rm.en s.size (Rm.bt s) (f + 1) t i = S := ⟨_, rfl⟩
  rw [hS] at HEI HALT HCAT HSTR HEMP HBYT HNON ⊢
  clear hS
  obtain ⟨kd, hkd⟩ : ∃ x, t.kind = x := ⟨_, rfl⟩
  obtain ⟨kl, hkl⟩ : ∃ x, t.kids = x := ⟨_, rfl⟩
  rw [hkd] at HST HKN HALT HCAT HSTR HEMP HBYT HNON ⊢
  rw [hkl] at HST HKN HALT HCAT HSTR K3 K4 HKC ⊢
  clear hkd hkl
  go_enter Tryd.func25, Tryd.ntmps25
  go_wp2_with (fail)
  have x1 := (HST.out.nth 1 rfl).celAt (i := 1) rfl
  obtain ⟨z0, z1⟩ := HST.out.at2 3 rfl
  refine Rm.shareM (P := ?PSh) (A := fun hit v0 v1 v2 v3 g8 W2 => Hid ((if hit = true then S else Dm.zero) = [v0, v1, v2, v3]) ∧ St w0 W2 (aCel g8 24 #[.int .u64 v0, .int .u64 v1, .int .u64 v2, .int .u64 v3] :: Rm.base E gm gs s w1 fp (aCel (W.heap.size + 1 + 1) 122 #[.int .i64 (q : Int), .int .i64 (i : Int)] :: aCel (W.heap.size + 1) 24 #[.int .u64 0, .int .u64 0, .int .u64 0, .int .u64 0] :: aCel W.heap.size 64 #[.int .i64 kd, .int .u64 a0, .int .u64 a1, .int .u64 a2, .int .u64 a3, .slice xa xl xc, .int .i64 (q : Int), .slice ak kl.length ck] :: μ))) (fun REST => ?h1) ?h2
  case h1 =>
    have HN := HST
    refine wp_region_held_drew (S := (fun w' => w'.cell? ⟨gs, 1, none⟩ = some (.map (some gm)) ∧ w'.cell? ⟨W.heap.size + 1 + 1, 0, none⟩ = some (.int .i64 (q : Int)) ∧ w'.cell? ⟨W.heap.size + 1 + 1, 1, none⟩ = some (.int .i64 (i : Int)))) (by kernel_rfl) ?_ (fun hHeld => ?_)
    · (try dsimp only); (first | exact ⟨x1, z0, z1⟩ | exact ⟨x1b, z0b, z1b⟩ | exact ⟨x1c, z0c, z1c⟩)

    refine wpAnyH_take (i := 0) (v := ?_) rfl (by kernel_rfl) (by kernel_rfl) (by kernel_rfl) (fun _ _ _ h => h) (Or.inl ⟨by rfl, ?_⟩) (by assumption) ?_
    rotate_left; focus (intro w hSw; (try dsimp only at hSw); go_simp; try (with_reducible rfl); done)
    try simp only [List.getElem_toArray, List.getElem_cons_zero, List.getElem_cons_succ, Act.put, List.setIfInBounds_toArray, List.set_cons_zero, List.set_cons_succ]
    refine wpAnyH_take (i := 1) (v := ?_) rfl (by kernel_rfl) (by kernel_rfl) (by kernel_rfl) (fun _ _ _ h => h) (Or.inl ⟨by rfl, ?_⟩) (by assumption) ?_
    rotate_left; focus (intro w hSw; (try dsimp only at hSw); go_simp; try (with_reducible rfl); done)
    try simp only [List.getElem_toArray, List.getElem_cons_zero, List.getElem_cons_succ, Act.put, List.setIfInBounds_toArray, List.set_cons_zero, List.set_cons_succ]
    refine wpAnyH_take (i := 2) (v := ?_) rfl (by kernel_rfl) (by kernel_rfl) (by kernel_rfl) (fun _ _ _ h => h) (Or.inl ⟨by rfl, ?_⟩) (by assumption) ?_
    rotate_left; focus (intro w hSw; (try dsimp only at hSw); go_simp; try (with_reducible rfl); done)
    try simp only [List.getElem_toArray, List.getElem_cons_zero, List.getElem_cons_succ, Act.put, List.setIfInBounds_toArray, List.set_cons_zero, List.set_cons_succ]
    refine wpAnyH_take (i := 3) (v := ?_) rfl (by kernel_rfl) (by kernel_rfl) (by kernel_rfl) (fun _ _ _ h => h) (Or.inl ⟨by rfl, ?_⟩) (by assumption) ?_
    rotate_left; focus (intro w hSw; (try dsimp only at hSw); go_simp; try (with_reducible rfl); done)
    try simp only [List.getElem_toArray, List.getElem_cons_zero, List.getElem_cons_succ, Act.put, List.setIfInBounds_toArray, List.set_cons_zero, List.set_cons_succ]
    refine wpAnyH_take (i := 4) (v := ?_) rfl (by kernel_rfl) (by kernel_rfl) (by kernel_rfl) (fun _ _ _ h => h) (Or.inl ⟨by rfl, ?_⟩) (by assumption) ?_
    rotate_left; focus (intro w hSw; (try dsimp only at hSw); go_simp; try (with_reducible rfl); done)
    try simp only [List.getElem_toArray, List.getElem_cons_zero, List.getElem_cons_succ, Act.put, List.setIfInBounds_toArray, List.set_cons_zero, List.set_cons_succ]
    refine wpAnyH_ready (rs := [5, 9]) (by kernel_rfl) (by simp) ?_
    refine AllReadyH.cons rfl (fun K hK => ?_) (AllReadyH.cons rfl (fun K hK => ?_) (AllReadyH.nil))
    · skip
      (refine St.stepMemo2 rfl (.tmp 21) (.tmp 22) rfl Tryd.underlying57 (by first | exact HN.out | exact HN.out.get2) HEE.out rfl q i rfl HKL.out ?_; intro hit v0 v1 v2 v3 hv; rw [HEI.out] at hv; have HV := Lib.hid hv; clear hv)
      refine hK.out _ _ ?_ (fun hHeld => ?_)
      · (try dsimp only); (first | exact ⟨x1, z0, z1⟩ | exact ⟨x1b, z0b, z1b⟩ | exact ⟨x1c, z0c, z1c⟩)
      clear hK K
      try simp only [List.getElem_toArray, List.getElem_cons_zero, List.getElem_cons_succ, Act.put, List.setIfInBounds_toArray, List.set_cons_zero, List.set_cons_succ]
      refine wpAnyH_take (i := 6) (v := ?_) rfl (by kernel_rfl) (by kernel_rfl) (by kernel_rfl) (fun _ _ _ h => h) (Or.inl ⟨by rfl, ?_⟩) (by assumption) ?_
      rotate_left; focus (intro w hSw; (try dsimp only at hSw); go_simp; try (with_reducible rfl); done)
      try simp only [List.getElem_toArray, List.getElem_cons_zero, List.getElem_cons_succ, Act.put, List.setIfInBounds_toArray, List.set_cons_zero, List.set_cons_succ]
      refine wpAnyH_take (i := 7) (v := ?_) rfl (by kernel_rfl) (by kernel_rfl) (by kernel_rfl) (fun _ _ _ h => h) (Or.inl ⟨by rfl, ?_⟩) (by assumption) ?_
      rotate_left; focus (intro w hSw; (try dsimp only at hSw); go_simp; try (with_reducible rfl); done)
      try simp only [List.getElem_toArray, List.getElem_cons_zero, List.getElem_cons_succ, Act.put, List.setIfInBounds_toArray, List.set_cons_zero, List.set_cons_succ]
      refine wpAnyH_take (i := 8) (v := ?_) rfl (by kernel_rfl) (by kernel_rfl) (by kernel_rfl) (fun _ _ _ h => h) (Or.inl ⟨by rfl, ?_⟩) (by assumption) ?_
      rotate_left; focus (intro w hSw; (try dsimp only at hSw); go_simp; try (with_reducible rfl); done)
      try simp only [List.getElem_toArray, List.getElem_cons_zero, List.getElem_cons_succ, Act.put, List.setIfInBounds_toArray, List.set_cons_zero, List.set_cons_succ]
      refine wpAnyH_ready (rs := [9]) (by kernel_rfl) (by simp) ?_
      refine AllReadyH.cons rfl (fun K hK => ?_) (AllReadyH.nil)
      (refine Cp.stepAlloc (T := 24) (cs := #[.int .u64 0, .int .u64 0, .int .u64 0, .int .u64 0]) rfl rfl (by intro u; kernel_rfl) HN.out ?_; intro g8 w8 hst8; have x1b := (hst8.nth 2 rfl).celAt (i := 1) rfl; obtain ⟨z0b, z1b⟩ := hst8.at2 4 rfl; have HN := Lib.hid hst8; clear hst8)
      refine hK.out _ _ ?_ (fun hHeld => ?_)
      · (try dsimp only); (first | exact ⟨x1, z0, z1⟩ | exact ⟨x1b, z0b, z1b⟩ | exact ⟨x1c, z0c, z1c⟩)
      clear hK K
      try simp only [List.getElem_toArray, List.getElem_cons_zero, List.getElem_cons_succ, Act.put, List.setIfInBounds_toArray, List.set_cons_zero, List.set_cons_succ]
      refine wpAnyH_ready (rs := [10]) (by kernel_rfl) (by simp) ?_
      refine AllReadyH.cons rfl (fun K hK => ?_) AllReadyH.nil
      (refine St.stepRow rfl 24 (.tmp 8) (.tmp 24) rfl g8 #[.int .u64 v0, .int .u64 v1, .int .u64 v2, .int .u64 v3] rfl rfl HN.out Cs.clInfo rfl (by simp [Value.oneCell']) ?_; intro w9 hst9; have x1c := (hst9.nth 2 rfl).celAt (i := 1) rfl; obtain ⟨z0c, z1c⟩ := hst9.at2 4 rfl; have HN := Lib.hid hst9; clear hst9)
      refine hK.out _ _ ?_ (fun hHeld => ?_)
      · (try dsimp only); (first | exact ⟨x1, z0, z1⟩ | exact ⟨x1b, z0b, z1b⟩ | exact ⟨x1c, z0c, z1c⟩)
      clear hK K
      try simp only [List.getElem_toArray, List.getElem_cons_zero, List.getElem_cons_succ, Act.put, List.setIfInBounds_toArray, List.set_cons_zero, List.set_cons_succ]
      refine wpAnyH_take (i := 11) (v := ?_) rfl (by kernel_rfl) (by kernel_rfl) (by kernel_rfl) (fun _ _ _ h => h) (Or.inl ⟨by rfl, ?_⟩) (by assumption) ?_
      rotate_left; focus (intro w hSw; (try dsimp only at hSw); go_simp; try (with_reducible rfl); done)
      try simp only [List.getElem_toArray, List.getElem_cons_zero, List.getElem_cons_succ, Act.put, List.setIfInBounds_toArray, List.set_cons_zero, List.set_cons_succ]
      refine wpAnyH_done (by kernel_rfl) ?_ _
      exact REST hit v0 v1 v2 v3 g8 _ ⟨HV, HN.out⟩
    · skip
      (refine Cp.stepAlloc (T := 24) (cs := #[.int .u64 0, .int .u64 0, .int .u64 0, .int .u64 0]) rfl rfl (by intro u; kernel_rfl) HN.out ?_; intro g8 w8 hst8; have x1b := (hst8.nth 2 rfl).celAt (i := 1) rfl; obtain ⟨z0b, z1b⟩ := hst8.at2 4 rfl; have HN := Lib.hid hst8; clear hst8)
      refine hK.out _ _ ?_ (fun hHeld => ?_)
      · (try dsimp only); (first | exact ⟨x1, z0, z1⟩ | exact ⟨x1b, z0b, z1b⟩ | exact ⟨x1c, z0c, z1c⟩)
      clear hK K
      try simp only [List.getElem_toArray, List.getElem_cons_zero, List.getElem_cons_succ, Act.put, List.setIfInBounds_toArray, List.set_cons_zero, List.set_cons_succ]
      refine wpAnyH_ready (rs := [5]) (by kernel_rfl) (by simp) ?_
      refine AllReadyH.cons rfl (fun K hK => ?_) (AllReadyH.nil)
      (refine St.stepMemo2 rfl (.tmp 21) (.tmp 22) rfl Tryd.underlying57 (by first | exact HN.out | exact HN.out.get2) HEE.out rfl q i rfl HKL.out ?_; intro hit v0 v1 v2 v3 hv; rw [HEI.out] at hv; have HV := Lib.hid hv; clear hv)
      refine hK.out _ _ ?_ (fun hHeld => ?_)
      · (try dsimp only); (first | exact ⟨x1, z0, z1⟩ | exact ⟨x1b, z0b, z1b⟩ | exact ⟨x1c, z0c, z1c⟩)
      clear hK K
      try simp only [List.getElem_toArray, List.getElem_cons_zero, List.getElem_cons_succ, Act.put, List.setIfInBounds_toArray, List.set_cons_zero, List.set_cons_succ]
      refine wpAnyH_take (i := 6) (v := ?_) rfl (by kernel_rfl) (by kernel_rfl) (by kernel_rfl) (fun _ _ _ h => h) (Or.inl ⟨by rfl, ?_⟩) (by assumption) ?_
      rotate_left; focus (intro w hSw; (try dsimp only at hSw); go_simp; try (with_reducible rfl); done)
      try simp only [List.getElem_toArray, List.getElem_cons_zero, List.getElem_cons_succ, Act.put, List.setIfInBounds_toArray, List.set_cons_zero, List.set_cons_succ]
      refine wpAnyH_take (i := 7) (v := ?_) rfl (by kernel_rfl) (by kernel_rfl) (by kernel_rfl) (fun _ _ _ h => h) (Or.inl ⟨by rfl, ?_⟩) (by assumption) ?_
      rotate_left; focus (intro w hSw; (try dsimp only at hSw); go_simp; try (with_reducible rfl); done)
      try simp only [List.getElem_toArray, List.getElem_cons_zero, List.getElem_cons_succ, Act.put, List.setIfInBounds_toArray, List.set_cons_zero, List.set_cons_succ]
      refine wpAnyH_take (i := 8) (v := ?_) rfl (by kernel_rfl) (by kernel_rfl) (by kernel_rfl) (fun _ _ _ h => h) (Or.inl ⟨by rfl, ?_⟩) (by assumption) ?_
      rotate_left; focus (intro w hSw; (try dsimp only at hSw); go_simp; try (with_reducible rfl); done)
      try simp only [List.getElem_toArray, List.getElem_cons_zero, List.getElem_cons_succ, Act.put, List.setIfInBounds_toArray, List.set_cons_zero, List.set_cons_succ]
      refine wpAnyH_ready (rs := [10]) (by kernel_rfl) (by simp) ?_
      refine AllReadyH.cons rfl (fun K hK => ?_) AllReadyH.nil
      (refine St.stepRow rfl 24 (.tmp 8) (.tmp 24) rfl g8 #[.int .u64 v0, .int .u64 v1, .int .u64 v2, .int .u64 v3] rfl rfl HN.out Cs.clInfo rfl (by simp [Value.oneCell']) ?_; intro w9 hst9; have x1c := (hst9.nth 2 rfl).celAt (i := 1) rfl; obtain ⟨z0c, z1c⟩ := hst9.at2 4 rfl; have HN := Lib.hid hst9; clear hst9)
      refine hK.out _ _ ?_ (fun hHeld => ?_)
      · (try dsimp only); (first | exact ⟨x1, z0, z1⟩ | exact ⟨x1b, z0b, z1b⟩ | exact ⟨x1c, z0c, z1c⟩)
      clear hK K
      try simp only [List.getElem_toArray, List.getElem_cons_zero, List.getElem_cons_succ, Act.put, List.setIfInBounds_toArray, List.set_cons_zero, List.set_cons_succ]
      refine wpAnyH_take (i := 11) (v := ?_) rfl (by kernel_rfl) (by kernel_rfl) (by kernel_rfl) (fun _ _ _ h => h) (Or.inl ⟨by rfl, ?_⟩) (by assumption) ?_
      rotate_left; focus (intro w hSw; (try dsimp only at hSw); go_simp; try (with_reducible rfl); done)
      try simp only [List.getElem_toArray, List.getElem_cons_zero, List.getElem_cons_succ, Act.put, List.setIfInBounds_toArray, List.set_cons_zero, List.set_cons_succ]
      refine wpAnyH_done (by kernel_rfl) ?_ _
      exact REST hit v0 v1 v2 v3 g8 _ ⟨HV, HN.out⟩
  intro hit v0 v1 v2 v3 g8 W2 hA
  obtain ⟨HV, hst⟩ := hA
  clear HST x1 z0 z1
  cases hit
  · have HST0 := Lib.hid ((hst.alloc #[.int .u64 0, .int .u64 0, .int .u64 0, .int .u64 0] 24).pick [2, 3, 4, 0, 1, 5, 6, 7] 8 rfl rfl)
    clear hst HV
    rcases HKN.out with (⟨hkd, hkl⟩ | ⟨hkd, hkl⟩) | ⟨hkd, hkl⟩ | ⟨hkd, hkl⟩ | ⟨hkd, hkl⟩ | ⟨hkd, hkl⟩
    · clear HKN
      subst hkd
      obtain ⟨n0, n1, n2, n3, n4, n5, n6, n7⟩ := Nm.cel8 HST0.out 7 rfl
      have ws := (HST0.out.nth 1 rfl).celAt (i := 0) rfl
      have HRG := Lib.hid (fun W => clRange_any (i : Int) (i : Int) (by omega) (by omega) (by omega) (by omega) W)
      rw [Rm.rng_eq, HEMP.out rfl] at HRG
      obtain ⟨u0, u1, u2, u3, hu⟩ := Cs.okFour (show Dm.Ok4 S by rw [← HEI.out]; exact HEE.out q i)
      have HU := Lib.hid hu
      rw [hu, show Cs.clV [u0, u1, u2, u3] = .agg #[.int .u64 u0, .int .u64 u1, .int .u64 u2, .int .u64 u3] from rfl] at HRG
      clear hu hkl
      go_wp2_with (fail)
      generalize hW3 : W2.alloc (.cells #[.int .u64 0, .int .u64 0, .int .u64 0, .int .u64 0] 24) = W3 at *
      generalize W2.heap.size = g10 at *
      clear hW3
      go_at_call 58
      refine (HRG.out _).mono ?_
      rintro e w5 ⟨rfl, hb5⟩
      have HST := Lib.hid (HST0.out.call hb5)
      clear hb5 HST0 HRG n0 n1 n2 n3 n4 n5 n6 n7 ws
      have HSTF := Lib.hid (HST.out.pick [3, 0, 1, 2, 4, 5, 6, 7] 8 rfl rfl)
      clear HST
      go_wp2_with (refine St.rowOp rfl 24 (.tmp 10) (.tmp 35) rfl g10 #[.int .u64 u0, .int .u64 u1, .int .u64 u2, .int .u64 u3] rfl rfl HSTF.out Cs.clInfo rfl (by simp [Value.oneCell']) ?_; intro w9 hst9; have HST := Lib.hid (hst9.pick [1, 2, 3, 0, 4, 5, 6, 7] 8 rfl rfl); clear hst9 HSTF)
      go_wp2_with (fail)
      have x1 := (HST.out.nth 1 rfl).celAt (i := 1) rfl
      obtain ⟨z0, z1⟩ := HST.out.at2 5 rfl
      obtain ⟨y0, y1, y2, y3⟩ := Rm.cls4 HST.out 3 rfl
      refine wp_region_held_drew (S := (fun w' => w'.cell? ⟨gs, 1, none⟩ = some (.map (some gm)) ∧ w'.cell? ⟨W.heap.size + 1 + 1, 0, none⟩ = some (.int .i64 (q : Int)) ∧ w'.cell? ⟨W.heap.size + 1 + 1, 1, none⟩ = some (.int .i64 (i : Int)) ∧ w'.cell? ⟨g10, 0, none⟩ = some (.int .u64 u0) ∧ w'.cell? ⟨g10, 1, none⟩ = some (.int .u64 u1) ∧ w'.cell? ⟨g10, 2, none⟩ = some (.int .u64 u2) ∧ w'.cell? ⟨g10, 3, none⟩ = some (.int .u64 u3))) (by kernel_rfl) ?_ (fun hHeld => ?_)
      · (try dsimp only); (first | exact ⟨x1, z0, z1, y0, y1, y2, y3⟩ | exact ⟨x1b, z0b, z1b, y0b, y1b, y2b, y3b⟩)

      refine wpAnyH_take (i := 0) (v := ?_) rfl (by kernel_rfl) (by kernel_rfl) (by kernel_rfl) (fun _ _ _ h => h) (Or.inl ⟨by rfl, ?_⟩) (by assumption) ?_
      rotate_left; focus (intro w hSw; (try dsimp only at hSw); go_simp; try (with_reducible rfl); done)
      try simp only [List.getElem_toArray, List.getElem_cons_zero, List.getElem_cons_succ, Act.put, List.setIfInBounds_toArray, List.set_cons_zero, List.set_cons_succ]
      refine wpAnyH_take (i := 1) (v := ?_) rfl (by kernel_rfl) (by kernel_rfl) (by kernel_rfl) (fun _ _ _ h => h) (Or.inl ⟨by rfl, ?_⟩) (by assumption) ?_
      rotate_left; focus (intro w hSw; (try dsimp only at hSw); go_simp; try (with_reducible rfl); done)
      try simp only [List.getElem_toArray, List.getElem_cons_zero, List.getElem_cons_succ, Act.put, List.setIfInBounds_toArray, List.set_cons_zero, List.set_cons_succ]
      refine wpAnyH_take (i := 2) (v := ?_) rfl (by kernel_rfl) (by kernel_rfl) (by kernel_rfl) (fun _ _ _ h => h) (Or.inl ⟨by rfl, ?_⟩) (by assumption) ?_
      rotate_left; focus (intro w hSw; (try dsimp only at hSw); go_simp; try (with_reducible rfl); done)
      try simp only [List.getElem_toArray, List.getElem_cons_zero, List.getElem_cons_succ, Act.put, List.setIfInBounds_toArray, List.set_cons_zero, List.set_cons_succ]
      refine wpAnyH_take (i := 3) (v := ?_) rfl (by kernel_rfl) (by kernel_rfl) (by kernel_rfl) (fun _ _ _ h => h) (Or.inl ⟨by rfl, ?_⟩) (by assumption) ?_
      rotate_left; focus (intro w hSw; (try dsimp only at hSw); go_simp; try (with_reducible rfl); done)
      try simp only [List.getElem_toArray, List.getElem_cons_zero, List.getElem_cons_succ, Act.put, List.setIfInBounds_toArray, List.set_cons_zero, List.set_cons_succ]
      refine wpAnyH_take (i := 4) (v := ?_) rfl (by kernel_rfl) (by kernel_rfl) (by kernel_rfl) (fun _ _ _ h => h) (Or.inl ⟨by rfl, ?_⟩) (by assumption) ?_
      rotate_left; focus (intro w hSw; (try dsimp only at hSw); go_simp; try (with_reducible rfl); done)
      try simp only [List.getElem_toArray, List.getElem_cons_zero, List.getElem_cons_succ, Act.put, List.setIfInBounds_toArray, List.set_cons_zero, List.set_cons_succ]
      refine wpAnyH_take (i := 5) (v := ?_) rfl (by kernel_rfl) (by kernel_rfl) (by kernel_rfl) (fun _ _ _ h => h) (Or.inl ⟨by rfl, ?_⟩) (by assumption) ?_
      rotate_left; focus (intro w hSw; (try dsimp only at hSw); go_simp; try (with_reducible rfl); done)
      try simp only [List.getElem_toArray, List.getElem_cons_zero, List.getElem_cons_succ, Act.put, List.setIfInBounds_toArray, List.set_cons_zero, List.set_cons_succ]
      refine wpAnyH_ready (rs := [6]) (by kernel_rfl) (by simp) ?_
      refine AllReadyH.cons rfl (fun K hK => ?_) AllReadyH.nil
      (refine St.stepMemoPut2 rfl (.tmp 121) (.tmp 122) (.tmp 123) rfl Tryd.underlying57 HST.out.drew HEE.out rfl q i hqq hii rfl HKL.out u0 u1 u2 u3 (HEI.out.trans HU.out) rfl ?_; intro w9 hst9; have x1b := (hst9.nth 1 rfl).celAt (i := 1) rfl; obtain ⟨z0b, z1b⟩ := hst9.at2 5 rfl; obtain ⟨y0b, y1b, y2b, y3b⟩ := Rm.cls4 hst9 3 rfl; have HST := Lib.hid hst9; clear hst9)
      refine hK.out _ _ ?_ (fun hHeld => ?_)
      · (try dsimp only); (first | exact ⟨x1, z0, z1, y0, y1, y2, y3⟩ | exact ⟨x1b, z0b, z1b, y0b, y1b, y2b, y3b⟩)
      clear hK K
      try simp only [List.getElem_toArray, List.getElem_cons_zero, List.getElem_cons_succ, Act.put, List.setIfInBounds_toArray, List.set_cons_zero, List.set_cons_succ]
      refine wpAnyH_done (by kernel_rfl) ?_ _
      clear x1 z0 z1 y0 y1 y2 y3 x1b z0b z1b
      have HSTR2 := Lib.hid (HST.out.pick [6, 0, 1, 2] 8 rfl rfl)
      clear HST
      go_wp2_with (refine St.rowOp rfl 24 (.tmp 6) (.tmp 124) rfl (W.heap.size + 1) #[.int .u64 u0, .int .u64 u1, .int .u64 u2, .int .u64 u3] rfl rfl HSTR2.out Cs.clInfo rfl (by simp [Value.oneCell']) ?_; intro w9 hst9; have HST9 := Lib.hid hst9; clear hst9 HSTR2)
      refine bodyPost_ret (results_row rfl _ _ (W.heap.size + 1) 24 _ _ rfl (HST9.out.heapAt 0 rfl) Tryd.underlying24 rfl Cs.clInfo) rfl ?_
      exact ⟨by rw [HU.out]; rfl, HST9.out.drop⟩
    · clear HKN
      subst hkd
      obtain ⟨n0, n1, n2, n3, n4, n5, n6, n7⟩ := Nm.cel8 HST0.out 7 rfl
      have ws := (HST0.out.nth 1 rfl).celAt (i := 0) rfl
      have HU := Lib.hid (show S = [0, 0, 0, 0] from (HNON.out rfl).symm)
      clear hkl
      go_wp2_with (fail)
      generalize hW3 : W2.alloc (.cells #[.int .u64 0, .int .u64 0, .int .u64 0, .int .u64 0] 24) = W3 at *
      generalize W2.heap.size = g10 at *
      clear hW3
      have HST := HST0
      clear HST0 n0 n1 n2 n3 n4 n5 n6 n7 ws
      have x1 := (HST.out.nth 1 rfl).celAt (i := 1) rfl
      obtain ⟨z0, z1⟩ := HST.out.at2 5 rfl
      obtain ⟨y0, y1, y2, y3⟩ := Rm.cls4 HST.out 3 rfl
      refine wp_region_held_drew (S := (fun w' => w'.cell? ⟨gs, 1, none⟩ = some (.map (some gm)) ∧ w'.cell? ⟨W.heap.size + 1 + 1, 0, none⟩ = some (.int .i64 (q : Int)) ∧ w'.cell? ⟨W.heap.size + 1 + 1, 1, none⟩ = some (.int .i64 (i : Int)) ∧ w'.cell? ⟨g10, 0, none⟩ = some (.int .u64 0) ∧ w'.cell? ⟨g10, 1, none⟩ = some (.int .u64 0) ∧ w'.cell? ⟨g10, 2, none⟩ = some (.int .u64 0) ∧ w'.cell? ⟨g10, 3, none⟩ = some (.int .u64 0))) (by kernel_rfl) ?_ (fun hHeld => ?_)
      · (try dsimp only); (first | exact ⟨x1, z0, z1, y0, y1, y2, y3⟩ | exact ⟨x1b, z0b, z1b, y0b, y1b, y2b, y3b⟩)

      refine wpAnyH_take (i := 0) (v := ?_) rfl (by kernel_rfl) (by kernel_rfl) (by kernel_rfl) (fun _ _ _ h => h) (Or.inl ⟨by rfl, ?_⟩) (by assumption) ?_
      rotate_left; focus (intro w hSw; (try dsimp only at hSw); go_simp; try (with_reducible rfl); done)
      try simp only [List.getElem_toArray, List.getElem_cons_zero, List.getElem_cons_succ, Act.put, List.setIfInBounds_toArray, List.set_cons_zero, List.set_cons_succ]
      refine wpAnyH_take (i := 1) (v := ?_) rfl (by kernel_rfl) (by kernel_rfl) (by kernel_rfl) (fun _ _ _ h => h) (Or.inl ⟨by rfl, ?_⟩) (by assumption) ?_
      rotate_left; focus (intro w hSw; (try dsimp only at hSw); go_simp; try (with_reducible rfl); done)
      try simp only [List.getElem_toArray, List.getElem_cons_zero, List.getElem_cons_succ, Act.put, List.setIfInBounds_toArray, List.set_cons_zero, List.set_cons_succ]
      refine wpAnyH_take (i := 2) (v := ?_) rfl (by kernel_rfl) (by kernel_rfl) (by kernel_rfl) (fun _ _ _ h => h) (Or.inl ⟨by rfl, ?_⟩) (by assumption) ?_
      rotate_left; focus (intro w hSw; (try dsimp only at hSw); go_simp; try (with_reducible rfl); done)
      try simp only [List.getElem_toArray, List.getElem_cons_zero, List.getElem_cons_succ, Act.put, List.setIfInBounds_toArray, List.set_cons_zero, List.set_cons_succ]
      refine wpAnyH_take (i := 3) (v := ?_) rfl (by kernel_rfl) (by kernel_rfl) (by kernel_rfl) (fun _ _ _ h => h) (Or.inl ⟨by rfl, ?_⟩) (by assumption) ?_
      rotate_left; focus (intro w hSw; (try dsimp only at hSw); go_simp; try (with_reducible rfl); done)
      try simp only [List.getElem_toArray, List.getElem_cons_zero, List.getElem_cons_succ, Act.put, List.setIfInBounds_toArray, List.set_cons_zero, List.set_cons_succ]
      refine wpAnyH_take (i := 4) (v := ?_) rfl (by kernel_rfl) (by kernel_rfl) (by kernel_rfl) (fun _ _ _ h => h) (Or.inl ⟨by rfl, ?_⟩) (by assumption) ?_
      rotate_left; focus (intro w hSw; (try dsimp only at hSw); go_simp; try (with_reducible rfl); done)
      try simp only [List.getElem_toArray, List.getElem_cons_zero, List.getElem_cons_succ, Act.put, List.setIfInBounds_toArray, List.set_cons_zero, List.set_cons_succ]
      refine wpAnyH_take (i := 5) (v := ?_) rfl (by kernel_rfl) (by kernel_rfl) (by kernel_rfl) (fun _ _ _ h => h) (Or.inl ⟨by rfl, ?_⟩) (by assumption) ?_
      rotate_left; focus (intro w hSw; (try dsimp only at hSw); go_simp; try (with_reducible rfl); done)
      try simp only [List.getElem_toArray, List.getElem_cons_zero, List.getElem_cons_succ, Act.put, List.setIfInBounds_toArray, List.set_cons_zero, List.set_cons_succ]
      refine wpAnyH_ready (rs := [6]) (by kernel_rfl) (by simp) ?_
      refine AllReadyH.cons rfl (fun K hK => ?_) AllReadyH.nil
      (refine St.stepMemoPut2 rfl (.tmp 121) (.tmp 122) (.tmp 123) rfl Tryd.underlying57 HST.out.drew HEE.out rfl q i hqq hii rfl HKL.out 0 0 0 0 (HEI.out.trans HU.out) rfl ?_; intro w9 hst9; have x1b := (hst9.nth 1 rfl).celAt (i := 1) rfl; obtain ⟨z0b, z1b⟩ := hst9.at2 5 rfl; obtain ⟨y0b, y1b, y2b, y3b⟩ := Rm.cls4 hst9 3 rfl; have HST := Lib.hid hst9; clear hst9)
      refine hK.out _ _ ?_ (fun hHeld => ?_)
      · (try dsimp only); (first | exact ⟨x1, z0, z1, y0, y1, y2, y3⟩ | exact ⟨x1b, z0b, z1b, y0b, y1b, y2b, y3b⟩)
      clear hK K
      try simp only [List.getElem_toArray, List.getElem_cons_zero, List.getElem_cons_succ, Act.put, List.setIfInBounds_toArray, List.set_cons_zero, List.set_cons_succ]
      refine wpAnyH_done (by kernel_rfl) ?_ _
      clear x1 z0 z1 y0 y1 y2 y3 x1b z0b z1b
      have HSTR2 := Lib.hid (HST.out.pick [6, 0, 1, 2] 8 rfl rfl)
      clear HST
      go_wp2_with (refine St.rowOp rfl 24 (.tmp 6) (.tmp 124) rfl (W.heap.size + 1) #[.int .u64 0, .int .u64 0, .int .u64 0, .int .u64 0] rfl rfl HSTR2.out Cs.clInfo rfl (by simp [Value.oneCell']) ?_; intro w9 hst9; have HST9 := Lib.hid hst9; clear hst9 HSTR2)
      refine bodyPost_ret (results_row rfl _ _ (W.heap.size + 1) 24 _ _ rfl (HST9.out.heapAt 0 rfl) Tryd.underlying24 rfl Cs.clInfo) rfl ?_
      exact ⟨by rw [HU.out]; rfl, HST9.out.drop⟩
    · clear HKN
      subst hkd
      obtain ⟨n0, n1, n2, n3, n4, n5, n6, n7⟩ := Nm.cel8 HST0.out 7 rfl
      have ws := (HST0.out.nth 1 rfl).celAt (i := 0) rfl
      have hby := HBYT.out rfl
      have HOKA := HOK
      clear hkl
      by_cases hin : i < s.size
      · skip
        have hIn : (i : Int) < s.size := by omega
        have hInd : decide ((i : Int) < (s.size : Int)) = true := decide_eq_true hIn
        have hbt := Rm.bt_get s i hin
        have hbl := Rm.bt_lt s i
        have HHA := Lib.hid (fun W => Cs.phas_words [a0, a1, a2, a3] HOKA.out (Rm.bt s i) hbl W)
        rw [show Cs.clV [a0, a1, a2, a3] = .agg #[.int .u64 a0, .int .u64 a1, .int .u64 a2, .int .u64 a3] from rfl] at HHA
        obtain ⟨x, hx⟩ : ∃ x, Rm.bt s i = x := ⟨_, rfl⟩
        rw [hx] at hbt hbl HHA hby
        clear hx
        obtain ⟨m, hm⟩ : ∃ m, Dm.mem [a0, a1, a2, a3] x = m := ⟨_, rfl⟩
        rw [hm] at HHA hby
        clear hm
        have HBY := Lib.hid hby
        clear hby
        go_wp2_with (fail)
        generalize hW3 : W2.alloc (.cells #[.int .u64 0, .int .u64 0, .int .u64 0, .int .u64 0] 24) = W3 at *
        generalize W2.heap.size = g10 at *
        clear hW3
        refine wp_region_held_drew (S := (fun w' => w'.cell? ⟨gs, 0, none⟩ = some (.string s) ∧ w'.cell? ⟨W.heap.size, 1, none⟩ = some (.int .u64 a0) ∧ w'.cell? ⟨W.heap.size, 2, none⟩ = some (.int .u64 a1) ∧ w'.cell? ⟨W.heap.size, 3, none⟩ = some (.int .u64 a2) ∧ w'.cell? ⟨W.heap.size, 4, none⟩ = some (.int .u64 a3))) (by kernel_rfl) ?_ (fun hHeld => ?_)
        · (try dsimp only); (first | exact ⟨ws, n1, n2, n3, n4⟩ | exact ⟨wsb, n1b, n2b, n3b, n4b⟩)

        refine wpAnyH_take (i := 0) (v := ?_) rfl (by kernel_rfl) (by kernel_rfl) (by kernel_rfl) (fun _ _ _ h => h) (Or.inl ⟨by rfl, ?_⟩) (by assumption) ?_
        rotate_left; focus (intro w hSw; (try dsimp only at hSw); go_simp; try (with_reducible rfl); done)
        try simp only [List.getElem_toArray, List.getElem_cons_zero, List.getElem_cons_succ, Act.put, List.setIfInBounds_toArray, List.set_cons_zero, List.set_cons_succ]
        refine wpAnyH_take (i := 1) (v := ?_) rfl (by kernel_rfl) (by kernel_rfl) (by kernel_rfl) (fun _ _ _ h => h) (Or.inl ⟨by rfl, ?_⟩) (by assumption) ?_
        rotate_left; focus (intro w hSw; (try dsimp only at hSw); go_simp; try (with_reducible rfl); done)
        try simp only [List.getElem_toArray, List.getElem_cons_zero, List.getElem_cons_succ, Act.put, List.setIfInBounds_toArray, List.set_cons_zero, List.set_cons_succ]
        refine wpAnyH_take (i := 2) (v := ?_) rfl (by kernel_rfl) (by kernel_rfl) (by kernel_rfl) (fun _ _ _ h => h) (Or.inl ⟨by rfl, ?_⟩) (by assumption) ?_
        rotate_left; focus (intro w hSw; (try dsimp only at hSw); go_simp; try (with_reducible rfl); done)
        try simp only [List.getElem_toArray, List.getElem_cons_zero, List.getElem_cons_succ, Act.put, List.setIfInBounds_toArray, List.set_cons_zero, List.set_cons_succ]
        refine wpAnyH_take (i := 3) (v := ?_) rfl (by kernel_rfl) (by kernel_rfl) (by kernel_rfl) (fun _ _ _ h => h) (Or.inl ⟨by rfl, ?_⟩) (by assumption) ?_
        rotate_left; focus (intro w hSw; (try dsimp only at hSw); go_simp; try (with_reducible rfl); done)
        try simp only [List.getElem_toArray, List.getElem_cons_zero, List.getElem_cons_succ, Act.put, List.setIfInBounds_toArray, List.set_cons_zero, List.set_cons_succ]
        refine wpAnyH_take (i := 4) (v := ?_) rfl (by kernel_rfl) (by kernel_rfl) (by kernel_rfl) (fun _ _ _ h => h) (Or.inl ⟨by rfl, ?_⟩) (by assumption) ?_
        rotate_left; focus (intro w hSw; (try dsimp only at hSw); go_simp; try (with_reducible rfl); done)
        try simp only [List.getElem_toArray, List.getElem_cons_zero, List.getElem_cons_succ, Act.put, List.setIfInBounds_toArray, List.set_cons_zero, List.set_cons_succ]
        refine wpAnyH_take (i := 5) (v := ?_) rfl (by kernel_rfl) (by kernel_rfl) (by kernel_rfl) (fun _ _ _ h => h) (Or.inl ⟨by rfl, ?_⟩) (by assumption) ?_
        rotate_left; focus (intro w hSw; (try dsimp only at hSw); go_simp; try (with_reducible rfl); done)
        try simp only [List.getElem_toArray, List.getElem_cons_zero, List.getElem_cons_succ, Act.put, List.setIfInBounds_toArray, List.set_cons_zero, List.set_cons_succ]
        refine wpAnyH_take (i := 6) (v := ?_) rfl (by kernel_rfl) (by kernel_rfl) (by kernel_rfl) (fun _ _ _ h => h) (Or.inl ⟨by rfl, ?_⟩) (by assumption) ?_
        rotate_left; focus (intro w hSw; (try dsimp only at hSw); go_simp; try (with_reducible rfl); done)
        try simp only [List.getElem_toArray, List.getElem_cons_zero, List.getElem_cons_succ, Act.put, List.setIfInBounds_toArray, List.set_cons_zero, List.set_cons_succ]
        refine wpAnyH_take (i := 7) (v := ?_) rfl (by kernel_rfl) (by kernel_rfl) (by kernel_rfl) (fun _ _ _ h => h) (Or.inl ⟨by rfl, ?_⟩) (by assumption) ?_
        rotate_left; focus (intro w hSw; (try dsimp only at hSw); go_simp; try (with_reducible rfl); done)
        try simp only [List.getElem_toArray, List.getElem_cons_zero, List.getElem_cons_succ, Act.put, List.setIfInBounds_toArray, List.set_cons_zero, List.set_cons_succ]
        refine wpAnyH_take (i := 8) (v := ?_) rfl (by kernel_rfl) (by kernel_rfl) (by kernel_rfl) (fun _ _ _ h => h) (Or.inl ⟨by rfl, ?_⟩) (by assumption) ?_
        rotate_left; focus (intro w hSw; (try dsimp only at hSw); go_simp; try (with_reducible rfl); done)
        try simp only [List.getElem_toArray, List.getElem_cons_zero, List.getElem_cons_succ, Act.put, List.setIfInBounds_toArray, List.set_cons_zero, List.set_cons_succ]
        refine wpAnyH_take (i := 9) (v := ?_) rfl (by kernel_rfl) (by kernel_rfl) (by kernel_rfl) (fun _ _ _ h => h) (Or.inl ⟨by rfl, ?_⟩) (by assumption) ?_
        rotate_left; focus (intro w hSw; (try dsimp only at hSw); go_simp; try (with_reducible rfl); done)
        try simp only [List.getElem_toArray, List.getElem_cons_zero, List.getElem_cons_succ, Act.put, List.setIfInBounds_toArray, List.set_cons_zero, List.set_cons_succ]
        refine wpAnyH_take (i := 10) (v := ?_) rfl (by kernel_rfl) (by kernel_rfl) (by kernel_rfl) (fun _ _ _ h => h) (Or.inl ⟨by rfl, ?_⟩) (by assumption) ?_
        rotate_left; focus (intro w hSw; (try dsimp only at hSw); go_simp; try (with_reducible rfl); done)
        try simp only [List.getElem_toArray, List.getElem_cons_zero, List.getElem_cons_succ, Act.put, List.setIfInBounds_toArray, List.set_cons_zero, List.set_cons_succ]
        refine wpAnyH_take (i := 11) (v := ?_) rfl (by kernel_rfl) (by kernel_rfl) (by kernel_rfl) (fun _ _ _ h => h) (Or.inl ⟨by rfl, ?_⟩) (by assumption) ?_
        rotate_left; focus (intro w hSw; (try dsimp only at hSw); go_simp; try (with_reducible rfl); done)
        try simp only [List.getElem_toArray, List.getElem_cons_zero, List.getElem_cons_succ, Act.put, List.setIfInBounds_toArray, List.set_cons_zero, List.set_cons_succ]
        refine wpAnyH_take (i := 12) (v := ?_) rfl (by kernel_rfl) (by kernel_rfl) (by kernel_rfl) (fun _ _ _ h => h) (Or.inl ⟨by rfl, ?_⟩) (by assumption) ?_
        rotate_left; focus (intro w hSw; (try dsimp only at hSw); go_simp; try (with_reducible rfl); done)
        try simp only [List.getElem_toArray, List.getElem_cons_zero, List.getElem_cons_succ, Act.put, List.setIfInBounds_toArray, List.set_cons_zero, List.set_cons_succ]
        refine wpAnyH_take (i := 13) (v := ?_) rfl (by kernel_rfl) (by kernel_rfl) (by kernel_rfl) (fun _ _ _ h => h) (Or.inl ⟨by rfl, ?_⟩) (by assumption) ?_
        rotate_left; focus (intro w hSw; (try dsimp only at hSw); go_simp; try (with_reducible rfl); done)
        try simp only [List.getElem_toArray, List.getElem_cons_zero, List.getElem_cons_succ, Act.put, List.setIfInBounds_toArray, List.set_cons_zero, List.set_cons_succ]
        refine wpAnyH_take (i := 14) (v := ?_) rfl (by kernel_rfl) (by kernel_rfl) (by kernel_rfl) (fun _ _ _ h => h) (Or.inl ⟨by rfl, ?_⟩) (by assumption) ?_
        rotate_left; focus (intro w hSw; (try dsimp only at hSw); go_simp; try (with_reducible rfl); done)
        try simp only [List.getElem_toArray, List.getElem_cons_zero, List.getElem_cons_succ, Act.put, List.setIfInBounds_toArray, List.set_cons_zero, List.set_cons_succ]
        refine wpAnyH_take (i := 15) (v := ?_) rfl (by kernel_rfl) (by kernel_rfl) (by kernel_rfl) (fun _ _ _ h => h) (Or.inl ⟨by rfl, ?_⟩) (by assumption) ?_
        rotate_left; focus (intro w hSw; (try dsimp only at hSw); go_simp; try (with_reducible rfl); done)
        try simp only [List.getElem_toArray, List.getElem_cons_zero, List.getElem_cons_succ, Act.put, List.setIfInBounds_toArray, List.set_cons_zero, List.set_cons_succ]
        refine wpAnyH_take (i := 16) (v := ?_) rfl (by kernel_rfl) (by kernel_rfl) (by kernel_rfl) (fun _ _ _ h => h) (Or.inl ⟨by rfl, ?_⟩) (by assumption) ?_
        rotate_left; focus (intro w hSw; (try dsimp only at hSw); go_simp; try (with_reducible rfl); done)
        try simp only [List.getElem_toArray, List.getElem_cons_zero, List.getElem_cons_succ, Act.put, List.setIfInBounds_toArray, List.set_cons_zero, List.set_cons_succ]
        refine wpAnyH_ready (rs := [17]) (by kernel_rfl) (by simp) ?_
        refine AllReadyH.cons rfl (fun K hK => ?_) AllReadyH.nil
        go_simp
        (go_at_call 24; refine (HHA.out _).mono ?_; rintro e w5 ⟨rfl, hb5⟩; have HST := Lib.hid (HST0.out.drew.call hb5); have wsb := (HST.out.nth 1 rfl).celAt (i := 0) rfl; obtain ⟨n0b, n1b, n2b, n3b, n4b, n5b, n6b, n7b⟩ := Nm.cel8 HST.out 7 rfl; clear hb5)
        refine hK.out _ _ ?_ (fun hHeld => ?_)
        · (try dsimp only); (first | exact ⟨ws, n1, n2, n3, n4⟩ | exact ⟨wsb, n1b, n2b, n3b, n4b⟩)
        clear hK K
        try simp only [List.getElem_toArray, List.getElem_cons_zero, List.getElem_cons_succ, Act.put, List.setIfInBounds_toArray, List.set_cons_zero, List.set_cons_succ]
        refine wpAnyH_take (i := 18) (v := ?_) rfl (by kernel_rfl) (by kernel_rfl) (by kernel_rfl) (fun _ _ _ h => h) (Or.inl ⟨by rfl, ?_⟩) (by assumption) ?_
        rotate_left; focus (intro w hSw; (try dsimp only at hSw); go_simp; try (with_reducible rfl); done)
        try simp only [List.getElem_toArray, List.getElem_cons_zero, List.getElem_cons_succ, Act.put, List.setIfInBounds_toArray, List.set_cons_zero, List.set_cons_succ]
        refine wpAnyH_done (by kernel_rfl) ?_ _
        clear HST0 n0 n1 n2 n3 n4 n5 n6 n7 ws n0b n1b n2b n3b n4b n5b n6b n7b wsb hbt hbl
        cases m
        · have HU := Lib.hid (show S = [0, 0, 0, 0] by rw [← HBY.out, if_neg (by simp)]; rfl)
          go_wp2_with (fail)
          have x1 := (HST.out.nth 1 rfl).celAt (i := 1) rfl
          obtain ⟨z0, z1⟩ := HST.out.at2 5 rfl
          obtain ⟨y0, y1, y2, y3⟩ := Rm.cls4 HST.out 3 rfl
          refine wp_region_held_drew (S := (fun w' => w'.cell? ⟨gs, 1, none⟩ = some (.map (some gm)) ∧ w'.cell? ⟨W.heap.size + 1 + 1, 0, none⟩ = some (.int .i64 (q : Int)) ∧ w'.cell? ⟨W.heap.size + 1 + 1, 1, none⟩ = some (.int .i64 (i : Int)) ∧ w'.cell? ⟨g10, 0, none⟩ = some (.int .u64 0) ∧ w'.cell? ⟨g10, 1, none⟩ = some (.int .u64 0) ∧ w'.cell? ⟨g10, 2, none⟩ = some (.int .u64 0) ∧ w'.cell? ⟨g10, 3, none⟩ = some (.int .u64 0))) (by kernel_rfl) ?_ (fun hHeld => ?_)
          · (try dsimp only); (first | exact ⟨x1, z0, z1, y0, y1, y2, y3⟩ | exact ⟨x1b, z0b, z1b, y0b, y1b, y2b, y3b⟩)

          refine wpAnyH_take (i := 0) (v := ?_) rfl (by kernel_rfl) (by kernel_rfl) (by kernel_rfl) (fun _ _ _ h => h) (Or.inl ⟨by rfl, ?_⟩) (by assumption) ?_
          rotate_left; focus (intro w hSw; (try dsimp only at hSw); go_simp; try (with_reducible rfl); done)
          try simp only [List.getElem_toArray, List.getElem_cons_zero, List.getElem_cons_succ, Act.put, List.setIfInBounds_toArray, List.set_cons_zero, List.set_cons_succ]
          refine wpAnyH_take (i := 1) (v := ?_) rfl (by kernel_rfl) (by kernel_rfl) (by kernel_rfl) (fun _ _ _ h => h) (Or.inl ⟨by rfl, ?_⟩) (by assumption) ?_
          rotate_left; focus (intro w hSw; (try dsimp only at hSw); go_simp; try (with_reducible rfl); done)
          try simp only [List.getElem_toArray, List.getElem_cons_zero, List.getElem_cons_succ, Act.put, List.setIfInBounds_toArray, List.set_cons_zero, List.set_cons_succ]
          refine wpAnyH_take (i := 2) (v := ?_) rfl (by kernel_rfl) (by kernel_rfl) (by kernel_rfl) (fun _ _ _ h => h) (Or.inl ⟨by rfl, ?_⟩) (by assumption) ?_
          rotate_left; focus (intro w hSw; (try dsimp only at hSw); go_simp; try (with_reducible rfl); done)
          try simp only [List.getElem_toArray, List.getElem_cons_zero, List.getElem_cons_succ, Act.put, List.setIfInBounds_toArray, List.set_cons_zero, List.set_cons_succ]
          refine wpAnyH_take (i := 3) (v := ?_) rfl (by kernel_rfl) (by kernel_rfl) (by kernel_rfl) (fun _ _ _ h => h) (Or.inl ⟨by rfl, ?_⟩) (by assumption) ?_
          rotate_left; focus (intro w hSw; (try dsimp only at hSw); go_simp; try (with_reducible rfl); done)
          try simp only [List.getElem_toArray, List.getElem_cons_zero, List.getElem_cons_succ, Act.put, List.setIfInBounds_toArray, List.set_cons_zero, List.set_cons_succ]
          refine wpAnyH_take (i := 4) (v := ?_) rfl (by kernel_rfl) (by kernel_rfl) (by kernel_rfl) (fun _ _ _ h => h) (Or.inl ⟨by rfl, ?_⟩) (by assumption) ?_
          rotate_left; focus (intro w hSw; (try dsimp only at hSw); go_simp; try (with_reducible rfl); done)
          try simp only [List.getElem_toArray, List.getElem_cons_zero, List.getElem_cons_succ, Act.put, List.setIfInBounds_toArray, List.set_cons_zero, List.set_cons_succ]
          refine wpAnyH_take (i := 5) (v := ?_) rfl (by kernel_rfl) (by kernel_rfl) (by kernel_rfl) (fun _ _ _ h => h) (Or.inl ⟨by rfl, ?_⟩) (by assumption) ?_
          rotate_left; focus (intro w hSw; (try dsimp only at hSw); go_simp; try (with_reducible rfl); done)
          try simp only [List.getElem_toArray, List.getElem_cons_zero, List.getElem_cons_succ, Act.put, List.setIfInBounds_toArray, List.set_cons_zero, List.set_cons_succ]
          refine wpAnyH_ready (rs := [6]) (by kernel_rfl) (by simp) ?_
          refine AllReadyH.cons rfl (fun K hK => ?_) AllReadyH.nil
          (refine St.stepMemoPut2 rfl (.tmp 121) (.tmp 122) (.tmp 123) rfl Tryd.underlying57 HST.out.drew HEE.out rfl q i hqq hii rfl HKL.out 0 0 0 0 (HEI.out.trans HU.out) rfl ?_; intro w9 hst9; have x1b := (hst9.nth 1 rfl).celAt (i := 1) rfl; obtain ⟨z0b, z1b⟩ := hst9.at2 5 rfl; obtain ⟨y0b, y1b, y2b, y3b⟩ := Rm.cls4 hst9 3 rfl; have HST := Lib.hid hst9; clear hst9)
          refine hK.out _ _ ?_ (fun hHeld => ?_)
          · (try dsimp only); (first | exact ⟨x1, z0, z1, y0, y1, y2, y3⟩ | exact ⟨x1b, z0b, z1b, y0b, y1b, y2b, y3b⟩)
          clear hK K
          try simp only [List.getElem_toArray, List.getElem_cons_zero, List.getElem_cons_succ, Act.put, List.setIfInBounds_toArray, List.set_cons_zero, List.set_cons_succ]
          refine wpAnyH_done (by kernel_rfl) ?_ _
          clear x1 z0 z1 y0 y1 y2 y3 x1b z0b z1b
          have HSTR2 := Lib.hid (HST.out.pick [6, 0, 1, 2] 8 rfl rfl)
          clear HST
          go_wp2_with (refine St.rowOp rfl 24 (.tmp 6) (.tmp 124) rfl (W.heap.size + 1) #[.int .u64 0, .int .u64 0, .int .u64 0, .int .u64 0] rfl rfl HSTR2.out Cs.clInfo rfl (by simp [Value.oneCell']) ?_; intro w9 hst9; have HST9 := Lib.hid hst9; clear hst9 HSTR2)
          refine bodyPost_ret (results_row rfl _ _ (W.heap.size + 1) 24 _ _ rfl (HST9.out.heapAt 0 rfl) Tryd.underlying24 rfl Cs.clInfo) rfl ?_
          exact ⟨by rw [HU.out]; rfl, HST9.out.drop⟩
        · have hby := HBY.out
          rw [if_pos ⟨hin, rfl⟩] at hby
          have HRG := Lib.hid (fun W => clRange_any ((i : Int) + 1) ((i : Int) + 1) (by omega) (by omega) (by omega) (by omega) W)
          rw [Rm.rng_eq, hby] at HRG
          obtain ⟨u0, u1, u2, u3, hu⟩ := Cs.okFour (show Dm.Ok4 S by rw [← HEI.out]; exact HEE.out q i)
          have HU := Lib.hid hu
          rw [hu, show Cs.clV [u0, u1, u2, u3] = .agg #[.int .u64 u0, .int .u64 u1, .int .u64 u2, .int .u64 u3] from rfl] at HRG
          clear hu hby HBY
          have hiw : IntKind.i64.wrap ((i : Int) + 1) = (i : Int) + 1 := IntWalk.i64_in _ (by omega)
          go_wp2_with (fail)
          go_at_call 58
          refine (HRG.out _).mono ?_
          rintro e w6 ⟨rfl, hb6⟩
          have HST := Lib.hid (HST.out.call hb6)
          clear hb6 HRG
          have HSTF := Lib.hid (HST.out.pick [3, 0, 1, 2, 4, 5, 6, 7] 8 rfl rfl)
          clear HST
          go_wp2_with (refine St.rowOp rfl 24 (.tmp 10) (.tmp 61) rfl g10 #[.int .u64 u0, .int .u64 u1, .int .u64 u2, .int .u64 u3] rfl rfl HSTF.out Cs.clInfo rfl (by simp [Value.oneCell']) ?_; intro w9 hst9; have HST := Lib.hid (hst9.pick [1, 2, 3, 0, 4, 5, 6, 7] 8 rfl rfl); clear hst9 HSTF)
          go_wp2_with (fail)
          have x1 := (HST.out.nth 1 rfl).celAt (i := 1) rfl
          obtain ⟨z0, z1⟩ := HST.out.at2 5 rfl
          obtain ⟨y0, y1, y2, y3⟩ := Rm.cls4 HST.out 3 rfl
          refine wp_region_held_drew (S := (fun w' => w'.cell? ⟨gs, 1, none⟩ = some (.map (some gm)) ∧ w'.cell? ⟨W.heap.size + 1 + 1, 0, none⟩ = some (.int .i64 (q : Int)) ∧ w'.cell? ⟨W.heap.size + 1 + 1, 1, none⟩ = some (.int .i64 (i : Int)) ∧ w'.cell? ⟨g10, 0, none⟩ = some (.int .u64 u0) ∧ w'.cell? ⟨g10, 1, none⟩ = some (.int .u64 u1) ∧ w'.cell? ⟨g10, 2, none⟩ = some (.int .u64 u2) ∧ w'.cell? ⟨g10, 3, none⟩ = some (.int .u64 u3))) (by kernel_rfl) ?_ (fun hHeld => ?_)
          · (try dsimp only); (first | exact ⟨x1, z0, z1, y0, y1, y2, y3⟩ | exact ⟨x1b, z0b, z1b, y0b, y1b, y2b, y3b⟩)

          refine wpAnyH_take (i := 0) (v := ?_) rfl (by kernel_rfl) (by kernel_rfl) (by kernel_rfl) (fun _ _ _ h => h) (Or.inl ⟨by rfl, ?_⟩) (by assumption) ?_
          rotate_left; focus (intro w hSw; (try dsimp only at hSw); go_simp; try (with_reducible rfl); done)
          try simp only [List.getElem_toArray, List.getElem_cons_zero, List.getElem_cons_succ, Act.put, List.setIfInBounds_toArray, List.set_cons_zero, List.set_cons_succ]
          refine wpAnyH_take (i := 1) (v := ?_) rfl (by kernel_rfl) (by kernel_rfl) (by kernel_rfl) (fun _ _ _ h => h) (Or.inl ⟨by rfl, ?_⟩) (by assumption) ?_
          rotate_left; focus (intro w hSw; (try dsimp only at hSw); go_simp; try (with_reducible rfl); done)
          try simp only [List.getElem_toArray, List.getElem_cons_zero, List.getElem_cons_succ, Act.put, List.setIfInBounds_toArray, List.set_cons_zero, List.set_cons_succ]
          refine wpAnyH_take (i := 2) (v := ?_) rfl (by kernel_rfl) (by kernel_rfl) (by kernel_rfl) (fun _ _ _ h => h) (Or.inl ⟨by rfl, ?_⟩) (by assumption) ?_
          rotate_left; focus (intro w hSw; (try dsimp only at hSw); go_simp; try (with_reducible rfl); done)
          try simp only [List.getElem_toArray, List.getElem_cons_zero, List.getElem_cons_succ, Act.put, List.setIfInBounds_toArray, List.set_cons_zero, List.set_cons_succ]
          refine wpAnyH_take (i := 3) (v := ?_) rfl (by kernel_rfl) (by kernel_rfl) (by kernel_rfl) (fun _ _ _ h => h) (Or.inl ⟨by rfl, ?_⟩) (by assumption) ?_
          rotate_left; focus (intro w hSw; (try dsimp only at hSw); go_simp; try (with_reducible rfl); done)
          try simp only [List.getElem_toArray, List.getElem_cons_zero, List.getElem_cons_succ, Act.put, List.setIfInBounds_toArray, List.set_cons_zero, List.set_cons_succ]
          refine wpAnyH_take (i := 4) (v := ?_) rfl (by kernel_rfl) (by kernel_rfl) (by kernel_rfl) (fun _ _ _ h => h) (Or.inl ⟨by rfl, ?_⟩) (by assumption) ?_
          rotate_left; focus (intro w hSw; (try dsimp only at hSw); go_simp; try (with_reducible rfl); done)
          try simp only [List.getElem_toArray, List.getElem_cons_zero, List.getElem_cons_succ, Act.put, List.setIfInBounds_toArray, List.set_cons_zero, List.set_cons_succ]
          refine wpAnyH_take (i := 5) (v := ?_) rfl (by kernel_rfl) (by kernel_rfl) (by kernel_rfl) (fun _ _ _ h => h) (Or.inl ⟨by rfl, ?_⟩) (by assumption) ?_
          rotate_left; focus (intro w hSw; (try dsimp only at hSw); go_simp; try (with_reducible rfl); done)
          try simp only [List.getElem_toArray, List.getElem_cons_zero, List.getElem_cons_succ, Act.put, List.setIfInBounds_toArray, List.set_cons_zero, List.set_cons_succ]
          refine wpAnyH_ready (rs := [6]) (by kernel_rfl) (by simp) ?_
          refine AllReadyH.cons rfl (fun K hK => ?_) AllReadyH.nil
          (refine St.stepMemoPut2 rfl (.tmp 121) (.tmp 122) (.tmp 123) rfl Tryd.underlying57 HST.out.drew HEE.out rfl q i hqq hii rfl HKL.out u0 u1 u2 u3 (HEI.out.trans HU.out) rfl ?_; intro w9 hst9; have x1b := (hst9.nth 1 rfl).celAt (i := 1) rfl; obtain ⟨z0b, z1b⟩ := hst9.at2 5 rfl; obtain ⟨y0b, y1b, y2b, y3b⟩ := Rm.cls4 hst9 3 rfl; have HST := Lib.hid hst9; clear hst9)
          refine hK.out _ _ ?_ (fun hHeld => ?_)
          · (try dsimp only); (first | exact ⟨x1, z0, z1, y0, y1, y2, y3⟩ | exact ⟨x1b, z0b, z1b, y0b, y1b, y2b, y3b⟩)
          clear hK K
          try simp only [List.getElem_toArray, List.getElem_cons_zero, List.getElem_cons_succ, Act.put, List.setIfInBounds_toArray, List.set_cons_zero, List.set_cons_succ]
          refine wpAnyH_done (by kernel_rfl) ?_ _
          clear x1 z0 z1 y0 y1 y2 y3 x1b z0b z1b
          have HSTR2 := Lib.hid (HST.out.pick [6, 0, 1, 2] 8 rfl rfl)
          clear HST
          go_wp2_with (refine St.rowOp rfl 24 (.tmp 6) (.tmp 124) rfl (W.heap.size + 1) #[.int .u64 u0, .int .u64 u1, .int .u64 u2, .int .u64 u3] rfl rfl HSTR2.out Cs.clInfo rfl (by simp [Value.oneCell']) ?_; intro w9 hst9; have HST9 := Lib.hid hst9; clear hst9 HSTR2)
          refine bodyPost_ret (results_row rfl _ _ (W.heap.size + 1) 24 _ _ rfl (HST9.out.heapAt 0 rfl) Tryd.underlying24 rfl Cs.clInfo) rfl ?_
          exact ⟨by rw [HU.out]; rfl, HST9.out.drop⟩
      · skip
        have hIn : ¬ (i : Int) < s.size := by omega
        have hInd : decide ((i : Int) < (s.size : Int)) = false := decide_eq_false hIn
        have HU := Lib.hid (show S = [0, 0, 0, 0] by rw [← hby, if_neg (fun h => hin h.1)]; rfl)
        clear hby
        go_wp2_with (fail)
        generalize hW3 : W2.alloc (.cells #[.int .u64 0, .int .u64 0, .int .u64 0, .int .u64 0] 24) = W3 at *
        generalize W2.heap.size = g10 at *
        clear hW3
        refine wp_region_held_drew (S := (fun w' => w'.cell? ⟨gs, 0, none⟩ = some (.string s) ∧ w'.cell? ⟨W.heap.size, 1, none⟩ = some (.int .u64 a0) ∧ w'.cell? ⟨W.heap.size, 2, none⟩ = some (.int .u64 a1) ∧ w'.cell? ⟨W.heap.size, 3, none⟩ = some (.int .u64 a2) ∧ w'.cell? ⟨W.heap.size, 4, none⟩ = some (.int .u64 a3))) (by kernel_rfl) ?_ (fun hHeld => ?_)
        · (try dsimp only); (first | exact ⟨ws, n1, n2, n3, n4⟩ | exact ⟨wsb, n1b, n2b, n3b, n4b⟩)

        refine wpAnyH_take (i := 0) (v := ?_) rfl (by kernel_rfl) (by kernel_rfl) (by kernel_rfl) (fun _ _ _ h => h) (Or.inl ⟨by rfl, ?_⟩) (by assumption) ?_
        rotate_left; focus (intro w hSw; (try dsimp only at hSw); go_simp; try (with_reducible rfl); done)
        try simp only [List.getElem_toArray, List.getElem_cons_zero, List.getElem_cons_succ, Act.put, List.setIfInBounds_toArray, List.set_cons_zero, List.set_cons_succ]
        refine wpAnyH_take (i := 1) (v := ?_) rfl (by kernel_rfl) (by kernel_rfl) (by kernel_rfl) (fun _ _ _ h => h) (Or.inl ⟨by rfl, ?_⟩) (by assumption) ?_
        rotate_left; focus (intro w hSw; (try dsimp only at hSw); go_simp; try (with_reducible rfl); done)
        try simp only [List.getElem_toArray, List.getElem_cons_zero, List.getElem_cons_succ, Act.put, List.setIfInBounds_toArray, List.set_cons_zero, List.set_cons_succ]
        refine wpAnyH_take (i := 2) (v := ?_) rfl (by kernel_rfl) (by kernel_rfl) (by kernel_rfl) (fun _ _ _ h => h) (Or.inl ⟨by rfl, ?_⟩) (by assumption) ?_
        rotate_left; focus (intro w hSw; (try dsimp only at hSw); go_simp; try (with_reducible rfl); done)
        try simp only [List.getElem_toArray, List.getElem_cons_zero, List.getElem_cons_succ, Act.put, List.setIfInBounds_toArray, List.set_cons_zero, List.set_cons_succ]
        refine wpAnyH_take (i := 3) (v := ?_) rfl (by kernel_rfl) (by kernel_rfl) (by kernel_rfl) (fun _ _ _ h => h) (Or.inl ⟨by rfl, ?_⟩) (by assumption) ?_
        rotate_left; focus (intro w hSw; (try dsimp only at hSw); go_simp; try (with_reducible rfl); done)
        try simp only [List.getElem_toArray, List.getElem_cons_zero, List.getElem_cons_succ, Act.put, List.setIfInBounds_toArray, List.set_cons_zero, List.set_cons_succ]
        refine wpAnyH_take (i := 4) (v := ?_) rfl (by kernel_rfl) (by kernel_rfl) (by kernel_rfl) (fun _ _ _ h => h) (Or.inl ⟨by rfl, ?_⟩) (by assumption) ?_
        rotate_left; focus (intro w hSw; (try dsimp only at hSw); go_simp; try (with_reducible rfl); done)
        try simp only [List.getElem_toArray, List.getElem_cons_zero, List.getElem_cons_succ, Act.put, List.setIfInBounds_toArray, List.set_cons_zero, List.set_cons_succ]
        refine wpAnyH_take (i := 5) (v := ?_) rfl (by kernel_rfl) (by kernel_rfl) (by kernel_rfl) (fun _ _ _ h => h) (Or.inl ⟨by rfl, ?_⟩) (by assumption) ?_
        rotate_left; focus (intro w hSw; (try dsimp only at hSw); go_simp; try (with_reducible rfl); done)
        try simp only [List.getElem_toArray, List.getElem_cons_zero, List.getElem_cons_succ, Act.put, List.setIfInBounds_toArray, List.set_cons_zero, List.set_cons_succ]
        refine wpAnyH_take (i := 6) (v := ?_) rfl (by kernel_rfl) (by kernel_rfl) (by kernel_rfl) (fun _ _ _ h => h) (Or.inl ⟨by rfl, ?_⟩) (by assumption) ?_
        rotate_left; focus (intro w hSw; (try dsimp only at hSw); go_simp; try (with_reducible rfl); done)
        try simp only [List.getElem_toArray, List.getElem_cons_zero, List.getElem_cons_succ, Act.put, List.setIfInBounds_toArray, List.set_cons_zero, List.set_cons_succ]
        refine wpAnyH_take (i := 7) (v := ?_) rfl (by kernel_rfl) (by kernel_rfl) (by kernel_rfl) (fun _ _ _ h => h) (Or.inl ⟨by rfl, ?_⟩) (by assumption) ?_
        rotate_left; focus (intro w hSw; (try dsimp only at hSw); go_simp; try (with_reducible rfl); done)
        try simp only [List.getElem_toArray, List.getElem_cons_zero, List.getElem_cons_succ, Act.put, List.setIfInBounds_toArray, List.set_cons_zero, List.set_cons_succ]
        first | (refine wpAnyH_take (i := 8) (v := undef) rfl (by kernel_rfl) (by kernel_rfl) (by kernel_rfl) (fun _ _ _ h => h) (Or.inr ⟨by rfl, rfl⟩) (by assumption) ?_) | (refine wpAnyH_take (i := 8) (v := ?_) rfl (by kernel_rfl) (by kernel_rfl) (by kernel_rfl) (fun _ _ _ h => h) (Or.inl ⟨by rfl, ?_⟩) (by assumption) ?_; rotate_left; focus (intro w hSw; (try dsimp only at hSw); go_simp; try (with_reducible rfl); done))
        try simp only [List.getElem_toArray, List.getElem_cons_zero, List.getElem_cons_succ, Act.put, List.setIfInBounds_toArray, List.set_cons_zero, List.set_cons_succ]
        first | (refine wpAnyH_take (i := 9) (v := undef) rfl (by kernel_rfl) (by kernel_rfl) (by kernel_rfl) (fun _ _ _ h => h) (Or.inr ⟨by rfl, rfl⟩) (by assumption) ?_) | (refine wpAnyH_take (i := 9) (v := ?_) rfl (by kernel_rfl) (by kernel_rfl) (by kernel_rfl) (fun _ _ _ h => h) (Or.inl ⟨by rfl, ?_⟩) (by assumption) ?_; rotate_left; focus (intro w hSw; (try dsimp only at hSw); go_simp; try (with_reducible rfl); done))
        try simp only [List.getElem_toArray, List.getElem_cons_zero, List.getElem_cons_succ, Act.put, List.setIfInBounds_toArray, List.set_cons_zero, List.set_cons_succ]
        first | (refine wpAnyH_take (i := 10) (v := undef) rfl (by kernel_rfl) (by kernel_rfl) (by kernel_rfl) (fun _ _ _ h => h) (Or.inr ⟨by rfl, rfl⟩) (by assumption) ?_) | (refine wpAnyH_take (i := 10) (v := ?_) rfl (by kernel_rfl) (by kernel_rfl) (by kernel_rfl) (fun _ _ _ h => h) (Or.inl ⟨by rfl, ?_⟩) (by assumption) ?_; rotate_left; focus (intro w hSw; (try dsimp only at hSw); go_simp; try (with_reducible rfl); done))
        try simp only [List.getElem_toArray, List.getElem_cons_zero, List.getElem_cons_succ, Act.put, List.setIfInBounds_toArray, List.set_cons_zero, List.set_cons_succ]
        first | (refine wpAnyH_take (i := 11) (v := undef) rfl (by kernel_rfl) (by kernel_rfl) (by kernel_rfl) (fun _ _ _ h => h) (Or.inr ⟨by rfl, rfl⟩) (by assumption) ?_) | (refine wpAnyH_take (i := 11) (v := ?_) rfl (by kernel_rfl) (by kernel_rfl) (by kernel_rfl) (fun _ _ _ h => h) (Or.inl ⟨by rfl, ?_⟩) (by assumption) ?_; rotate_left; focus (intro w hSw; (try dsimp only at hSw); go_simp; try (with_reducible rfl); done))
        try simp only [List.getElem_toArray, List.getElem_cons_zero, List.getElem_cons_succ, Act.put, List.setIfInBounds_toArray, List.set_cons_zero, List.set_cons_succ]
        first | (refine wpAnyH_take (i := 12) (v := undef) rfl (by kernel_rfl) (by kernel_rfl) (by kernel_rfl) (fun _ _ _ h => h) (Or.inr ⟨by rfl, rfl⟩) (by assumption) ?_) | (refine wpAnyH_take (i := 12) (v := ?_) rfl (by kernel_rfl) (by kernel_rfl) (by kernel_rfl) (fun _ _ _ h => h) (Or.inl ⟨by rfl, ?_⟩) (by assumption) ?_; rotate_left; focus (intro w hSw; (try dsimp only at hSw); go_simp; try (with_reducible rfl); done))
        try simp only [List.getElem_toArray, List.getElem_cons_zero, List.getElem_cons_succ, Act.put, List.setIfInBounds_toArray, List.set_cons_zero, List.set_cons_succ]
        first | (refine wpAnyH_take (i := 13) (v := undef) rfl (by kernel_rfl) (by kernel_rfl) (by kernel_rfl) (fun _ _ _ h => h) (Or.inr ⟨by rfl, rfl⟩) (by assumption) ?_) | (refine wpAnyH_take (i := 13) (v := ?_) rfl (by kernel_rfl) (by kernel_rfl) (by kernel_rfl) (fun _ _ _ h => h) (Or.inl ⟨by rfl, ?_⟩) (by assumption) ?_; rotate_left; focus (intro w hSw; (try dsimp only at hSw); go_simp; try (with_reducible rfl); done))
        try simp only [List.getElem_toArray, List.getElem_cons_zero, List.getElem_cons_succ, Act.put, List.setIfInBounds_toArray, List.set_cons_zero, List.set_cons_succ]
        first | (refine wpAnyH_take (i := 14) (v := undef) rfl (by kernel_rfl) (by kernel_rfl) (by kernel_rfl) (fun _ _ _ h => h) (Or.inr ⟨by rfl, rfl⟩) (by assumption) ?_) | (refine wpAnyH_take (i := 14) (v := ?_) rfl (by kernel_rfl) (by kernel_rfl) (by kernel_rfl) (fun _ _ _ h => h) (Or.inl ⟨by rfl, ?_⟩) (by assumption) ?_; rotate_left; focus (intro w hSw; (try dsimp only at hSw); go_simp; try (with_reducible rfl); done))
        try simp only [List.getElem_toArray, List.getElem_cons_zero, List.getElem_cons_succ, Act.put, List.setIfInBounds_toArray, List.set_cons_zero, List.set_cons_succ]
        first | (refine wpAnyH_take (i := 15) (v := undef) rfl (by kernel_rfl) (by kernel_rfl) (by kernel_rfl) (fun _ _ _ h => h) (Or.inr ⟨by rfl, rfl⟩) (by assumption) ?_) | (refine wpAnyH_take (i := 15) (v := ?_) rfl (by kernel_rfl) (by kernel_rfl) (by kernel_rfl) (fun _ _ _ h => h) (Or.inl ⟨by rfl, ?_⟩) (by assumption) ?_; rotate_left; focus (intro w hSw; (try dsimp only at hSw); go_simp; try (with_reducible rfl); done))
        try simp only [List.getElem_toArray, List.getElem_cons_zero, List.getElem_cons_succ, Act.put, List.setIfInBounds_toArray, List.set_cons_zero, List.set_cons_succ]
        first | (refine wpAnyH_take (i := 16) (v := undef) rfl (by kernel_rfl) (by kernel_rfl) (by kernel_rfl) (fun _ _ _ h => h) (Or.inr ⟨by rfl, rfl⟩) (by assumption) ?_) | (refine wpAnyH_take (i := 16) (v := ?_) rfl (by kernel_rfl) (by kernel_rfl) (by kernel_rfl) (fun _ _ _ h => h) (Or.inl ⟨by rfl, ?_⟩) (by assumption) ?_; rotate_left; focus (intro w hSw; (try dsimp only at hSw); go_simp; try (with_reducible rfl); done))
        try simp only [List.getElem_toArray, List.getElem_cons_zero, List.getElem_cons_succ, Act.put, List.setIfInBounds_toArray, List.set_cons_zero, List.set_cons_succ]
        first | (refine wpAnyH_take (i := 17) (v := undef) rfl (by kernel_rfl) (by kernel_rfl) (by kernel_rfl) (fun _ _ _ h => h) (Or.inr ⟨by rfl, rfl⟩) (by assumption) ?_) | (refine wpAnyH_take (i := 17) (v := ?_) rfl (by kernel_rfl) (by kernel_rfl) (by kernel_rfl) (fun _ _ _ h => h) (Or.inl ⟨by rfl, ?_⟩) (by assumption) ?_; rotate_left; focus (intro w hSw; (try dsimp only at hSw); go_simp; try (with_reducible rfl); done))
        try simp only [List.getElem_toArray, List.getElem_cons_zero, List.getElem_cons_succ, Act.put, List.setIfInBounds_toArray, List.set_cons_zero, List.set_cons_succ]
        refine wpAnyH_take (i := 18) (v := ?_) rfl (by kernel_rfl) (by kernel_rfl) (by kernel_rfl) (fun _ _ _ h => h) (Or.inl ⟨by rfl, ?_⟩) (by assumption) ?_
        rotate_left; focus (intro w hSw; (try dsimp only at hSw); go_simp; try (with_reducible rfl); done)
        try simp only [List.getElem_toArray, List.getElem_cons_zero, List.getElem_cons_succ, Act.put, List.setIfInBounds_toArray, List.set_cons_zero, List.set_cons_succ]
        refine wpAnyH_done (by kernel_rfl) ?_ _
        have HST := Lib.hid HST0.out.drew
        clear HST0 n0 n1 n2 n3 n4 n5 n6 n7 ws
        go_wp2_with (fail)
        have x1 := (HST.out.nth 1 rfl).celAt (i := 1) rfl
        obtain ⟨z0, z1⟩ := HST.out.at2 5 rfl
        obtain ⟨y0, y1, y2, y3⟩ := Rm.cls4 HST.out 3 rfl
        refine wp_region_held_drew (S := (fun w' => w'.cell? ⟨gs, 1, none⟩ = some (.map (some gm)) ∧ w'.cell? ⟨W.heap.size + 1 + 1, 0, none⟩ = some (.int .i64 (q : Int)) ∧ w'.cell? ⟨W.heap.size + 1 + 1, 1, none⟩ = some (.int .i64 (i : Int)) ∧ w'.cell? ⟨g10, 0, none⟩ = some (.int .u64 0) ∧ w'.cell? ⟨g10, 1, none⟩ = some (.int .u64 0) ∧ w'.cell? ⟨g10, 2, none⟩ = some (.int .u64 0) ∧ w'.cell? ⟨g10, 3, none⟩ = some (.int .u64 0))) (by kernel_rfl) ?_ (fun hHeld => ?_)
        · (try dsimp only); (first | exact ⟨x1, z0, z1, y0, y1, y2, y3⟩ | exact ⟨x1b, z0b, z1b, y0b, y1b, y2b, y3b⟩)

        refine wpAnyH_take (i := 0) (v := ?_) rfl (by kernel_rfl) (by kernel_rfl) (by kernel_rfl) (fun _ _ _ h => h) (Or.inl ⟨by rfl, ?_⟩) (by assumption) ?_
        rotate_left; focus (intro w hSw; (try dsimp only at hSw); go_simp; try (with_reducible rfl); done)
        try simp only [List.getElem_toArray, List.getElem_cons_zero, List.getElem_cons_succ, Act.put, List.setIfInBounds_toArray, List.set_cons_zero, List.set_cons_succ]
        refine wpAnyH_take (i := 1) (v := ?_) rfl (by kernel_rfl) (by kernel_rfl) (by kernel_rfl) (fun _ _ _ h => h) (Or.inl ⟨by rfl, ?_⟩) (by assumption) ?_
        rotate_left; focus (intro w hSw; (try dsimp only at hSw); go_simp; try (with_reducible rfl); done)
        try simp only [List.getElem_toArray, List.getElem_cons_zero, List.getElem_cons_succ, Act.put, List.setIfInBounds_toArray, List.set_cons_zero, List.set_cons_succ]
        refine wpAnyH_take (i := 2) (v := ?_) rfl (by kernel_rfl) (by kernel_rfl) (by kernel_rfl) (fun _ _ _ h => h) (Or.inl ⟨by rfl, ?_⟩) (by assumption) ?_
        rotate_left; focus (intro w hSw; (try dsimp only at hSw); go_simp; try (with_reducible rfl); done)
        try simp only [List.getElem_toArray, List.getElem_cons_zero, List.getElem_cons_succ, Act.put, List.setIfInBounds_toArray, List.set_cons_zero, List.set_cons_succ]
        refine wpAnyH_take (i := 3) (v := ?_) rfl (by kernel_rfl) (by kernel_rfl) (by kernel_rfl) (fun _ _ _ h => h) (Or.inl ⟨by rfl, ?_⟩) (by assumption) ?_
        rotate_left; focus (intro w hSw; (try dsimp only at hSw); go_simp; try (with_reducible rfl); done)
        try simp only [List.getElem_toArray, List.getElem_cons_zero, List.getElem_cons_succ, Act.put, List.setIfInBounds_toArray, List.set_cons_zero, List.set_cons_succ]
        refine wpAnyH_take (i := 4) (v := ?_) rfl (by kernel_rfl) (by kernel_rfl) (by kernel_rfl) (fun _ _ _ h => h) (Or.inl ⟨by rfl, ?_⟩) (by assumption) ?_
        rotate_left; focus (intro w hSw; (try dsimp only at hSw); go_simp; try (with_reducible rfl); done)
        try simp only [List.getElem_toArray, List.getElem_cons_zero, List.getElem_cons_succ, Act.put, List.setIfInBounds_toArray, List.set_cons_zero, List.set_cons_succ]
        refine wpAnyH_take (i := 5) (v := ?_) rfl (by kernel_rfl) (by kernel_rfl) (by kernel_rfl) (fun _ _ _ h => h) (Or.inl ⟨by rfl, ?_⟩) (by assumption) ?_
        rotate_left; focus (intro w hSw; (try dsimp only at hSw); go_simp; try (with_reducible rfl); done)
        try simp only [List.getElem_toArray, List.getElem_cons_zero, List.getElem_cons_succ, Act.put, List.setIfInBounds_toArray, List.set_cons_zero, List.set_cons_succ]
        refine wpAnyH_ready (rs := [6]) (by kernel_rfl) (by simp) ?_
        refine AllReadyH.cons rfl (fun K hK => ?_) AllReadyH.nil
        (refine St.stepMemoPut2 rfl (.tmp 121) (.tmp 122) (.tmp 123) rfl Tryd.underlying57 HST.out.drew HEE.out rfl q i hqq hii rfl HKL.out 0 0 0 0 (HEI.out.trans HU.out) rfl ?_; intro w9 hst9; have x1b := (hst9.nth 1 rfl).celAt (i := 1) rfl; obtain ⟨z0b, z1b⟩ := hst9.at2 5 rfl; obtain ⟨y0b, y1b, y2b, y3b⟩ := Rm.cls4 hst9 3 rfl; have HST := Lib.hid hst9; clear hst9)
        refine hK.out _ _ ?_ (fun hHeld => ?_)
        · (try dsimp only); (first | exact ⟨x1, z0, z1, y0, y1, y2, y3⟩ | exact ⟨x1b, z0b, z1b, y0b, y1b, y2b, y3b⟩)
        clear hK K
        try simp only [List.getElem_toArray, List.getElem_cons_zero, List.getElem_cons_succ, Act.put, List.setIfInBounds_toArray, List.set_cons_zero, List.set_cons_succ]
        refine wpAnyH_done (by kernel_rfl) ?_ _
        clear x1 z0 z1 y0 y1 y2 y3 x1b z0b z1b
        have HSTR2 := Lib.hid (HST.out.pick [6, 0, 1, 2] 8 rfl rfl)
        clear HST
        go_wp2_with (refine St.rowOp rfl 24 (.tmp 6) (.tmp 124) rfl (W.heap.size + 1) #[.int .u64 0, .int .u64 0, .int .u64 0, .int .u64 0] rfl rfl HSTR2.out Cs.clInfo rfl (by simp [Value.oneCell']) ?_; intro w9 hst9; have HST9 := Lib.hid hst9; clear hst9 HSTR2)
        refine bodyPost_ret (results_row rfl _ _ (W.heap.size + 1) 24 _ _ rfl (HST9.out.heapAt 0 rfl) Tryd.underlying24 rfl Cs.clInfo) rfl ?_
        exact ⟨by rw [HU.out]; rfl, HST9.out.drop⟩
    · clear HKN
      subst hkd
      obtain ⟨n0, n1, n2, n3, n4, n5, n6, n7⟩ := Nm.cel8 HST0.out 7 rfl
      have ws := (HST0.out.nth 1 rfl).celAt (i := 0) rfl
      obtain ⟨rfl, -, hbk⟩ := K3.out (by omega)
      have HBK := Lib.hid hbk
      clear hbk
      have hkN : 0 < kl.length := by omega
      have hkI : (0 : Int) < kl.length := by omega
      obtain ⟨b00, b01, b02, b03, ax0, lx0, cx0, ay0, ly0, cy0, -, e00, e01, e02, e03, e04, e05, e06, e07, hen0⟩ := K4.out 0 (by omega)
      obtain ⟨g01, g02, g03⟩ := HKC.out 0 (by omega)
      have HI0 := Lib.hid (IH.out (kl.getD 0 Rx.nil) (q + 1 + Nm.sumK f (kl.take 0)) #[.int .i64 (kl.getD 0 Rx.nil).kind, .int .u64 b00, .int .u64 b01, .int .u64 b02, .int .u64 b03, .slice ax0 lx0 cx0, .int .i64 ((q + 1 + Nm.sumK f (kl.take 0) : Nat) : Int), .slice ay0 ly0 cy0] hen0 g01 g02 g03)
      simp only [Nat.zero_mul, Nat.one_mul, Nat.add_zero] at e00 e01 e02 e03 e04 e05 e06 e07
      clear hen0 g01 g02 g03
      have hfin := HSTR.out rfl
      clear hkl
      generalize (kl.getD 0 Rx.nil).kind = kk0 at *
      generalize q + 1 + Nm.sumK f (kl.take 0) = q0 at *
      generalize kl.getD 0 Rx.nil = kid0 at *
      have e00 := Lib.hid e00
      have e01 := Lib.hid e01
      have e02 := Lib.hid e02
      have e03 := Lib.hid e03
      have e04 := Lib.hid e04
      have e05 := Lib.hid e05
      have e06 := Lib.hid e06
      have e07 := Lib.hid e07
      have HFIN := Lib.hid hfin
      clear hfin
      have HRG := Lib.hid (fun W => clRange_any (i : Int) (i : Int) (by omega) (by omega) (by omega) (by omega) W)
      rw [Rm.rng_eq, Rm.rng_self] at HRG
      have hss := Rm.star_start (a := Rm.mt s.size (Rm.bt s) f kid0) hs hi
      obtain ⟨p0, p1, p2, p3, hp⟩ := Cs.okFour (Cs.ok_of fun x => decide (i = x))
      rw [hp] at HRG hss
      rw [show Cs.clV [p0, p1, p2, p3] = .agg #[.int .u64 p0, .int .u64 p1, .int .u64 p2, .int .u64 p3] from rfl] at HRG
      have HSX := Lib.hid hss
      clear hss hp
      go_wp2_with (fail)
      generalize hW3 : W2.alloc (.cells #[.int .u64 0, .int .u64 0, .int .u64 0, .int .u64 0] 24) = W3 at *
      generalize W2.heap.size = g10 at *
      clear hW3
      go_at_call 58
      refine (HRG.out _).mono ?_
      rintro e w5 ⟨rfl, hb5⟩
      have HST := Lib.hid (HST0.out.call hb5)
      clear hb5 HST0 HRG n0 n1 n2 n3 n4 n5 n6 n7 ws
      have HSTF := Lib.hid (HST.out.pick [3, 0, 1, 2, 4, 5, 6, 7] 8 rfl rfl)
      clear HST
      go_wp2_with (refine St.rowOp rfl 24 (.tmp 10) (.tmp 98) rfl g10 #[.int .u64 p0, .int .u64 p1, .int .u64 p2, .int .u64 p3] rfl rfl HSTF.out Cs.clInfo rfl (by simp [Value.oneCell']) ?_; intro w9 hst9; have HST := Lib.hid (hst9.pick [1, 2, 3, 0, 4, 5, 6, 7] 8 rfl rfl); obtain ⟨y0, y1, y2, y3⟩ := Rm.cls4 hst9 0 rfl; clear hst9 HSTF)
      have HST := Lib.hid ((HST.out.alloc #[.int .u64 p0, .int .u64 p1, .int .u64 p2, .int .u64 p3] 24).pick [1, 2, 3, 0, 4, 5, 6, 7, 8] 9 rfl rfl)
      clear y0 y1 y2 y3
      generalize hW9 : w9.alloc (.cells #[.int .u64 p0, .int .u64 p1, .int .u64 p2, .int .u64 p3] 24) = W9 at *
      generalize w9.heap.size = g110 at *
      clear hW9
      go_loopg [11] (Rm.ms [p0, p1, p2, p3] [p0, p1, p2, p3]) (fun gz v11 wr => ∃ (o0 o1 o2 o3 n0 n1 n2 n3 g11 : Nat), gz = Rm.ms [o0, o1, o2, o3] [n0, n1, n2, n3] ∧ v11 = .pointer (some ⟨g11, 0, none⟩) ∧ Hid (Rm.Star s.size (Rm.mt s.size (Rm.bt s) f kid0) i [o0, o1, o2, o3] [n0, n1, n2, n3]) ∧ St w0 wr (Rm.base E gm gs s w1 fp (aCel g11 24 #[.int .u64 n0, .int .u64 n1, .int .u64 n2, .int .u64 n3] :: aCel g10 24 #[.int .u64 o0, .int .u64 o1, .int .u64 o2, .int .u64 o3] :: aCel g8 24 #[.int .u64 v0, .int .u64 v1, .int .u64 v2, .int .u64 v3] :: aCel (W.heap.size + 1 + 1) 122 #[.int .i64 (q : Int), .int .i64 (i : Int)] :: aCel (W.heap.size + 1) 24 #[.int .u64 0, .int .u64 0, .int .u64 0, .int .u64 0] :: aCel W.heap.size 64 #[.int .i64 6, .int .u64 a0, .int .u64 a1, .int .u64 a2, .int .u64 a3, .slice xa xl xc, .int .i64 (q : Int), .slice (some ⟨bk, ok, none⟩) kl.length ck] :: μ)))
      case atStart => exact ⟨p0, p1, p2, p3, p0, p1, p2, p3, g110, rfl, rfl, HSX, HST.out⟩
      case round =>
        clear HST HSX
        obtain ⟨o0, o1, o2, o3, n0, n1, n2, n3, g11, hgz, rfl, HSX, hst⟩ := hrel
        have HGZ := Lib.hid hgz
        clear hgz
        have HST := Lib.hid hst
        clear hst
        obtain ⟨y0, y1, y2, y3⟩ := Rm.cls4 HST.out 3 rfl
        have heq := fun W => Rx.eqz (a0 := n0) (a1 := n1) (a2 := n2) (a3 := n3) W
        by_cases hz : [n0, n1, n2, n3] = Dm.zero
        · rw [decide_eq_true hz] at heq
          have hend := Rm.star_end hs (Rm.mt_fwd f kid0) hi (hz ▸ HSX.out)
          rw [HFIN.out] at hend
          have HU := Lib.hid hend.symm
          clear hend hz HFIN
          go_wp2_with (fail)
          clear heq y0 y1 y2 y3
          have HST := Lib.hid (HST.out.pick [0, 1, 2, 4, 5, 6, 7, 8] 9 rfl rfl)
          have x1 := (HST.out.nth 1 rfl).celAt (i := 1) rfl
          obtain ⟨z0, z1⟩ := HST.out.at2 5 rfl
          obtain ⟨y0, y1, y2, y3⟩ := Rm.cls4 HST.out 3 rfl
          refine wp_region_held_drew (S := (fun w' => w'.cell? ⟨gs, 1, none⟩ = some (.map (some gm)) ∧ w'.cell? ⟨W.heap.size + 1 + 1, 0, none⟩ = some (.int .i64 (q : Int)) ∧ w'.cell? ⟨W.heap.size + 1 + 1, 1, none⟩ = some (.int .i64 (i : Int)) ∧ w'.cell? ⟨g10, 0, none⟩ = some (.int .u64 o0) ∧ w'.cell? ⟨g10, 1, none⟩ = some (.int .u64 o1) ∧ w'.cell? ⟨g10, 2, none⟩ = some (.int .u64 o2) ∧ w'.cell? ⟨g10, 3, none⟩ = some (.int .u64 o3))) (by kernel_rfl) ?_ (fun hHeld => ?_)
          · (try dsimp only); (first | exact ⟨x1, z0, z1, y0, y1, y2, y3⟩ | exact ⟨x1b, z0b, z1b, y0b, y1b, y2b, y3b⟩)

          refine wpAnyH_take (i := 0) (v := ?_) rfl (by kernel_rfl) (by kernel_rfl) (by kernel_rfl) (fun _ _ _ h => h) (Or.inl ⟨by rfl, ?_⟩) (by assumption) ?_
          rotate_left; focus (intro w hSw; (try dsimp only at hSw); go_simp; try (with_reducible rfl); done)
          try simp only [List.getElem_toArray, List.getElem_cons_zero, List.getElem_cons_succ, Act.put, List.setIfInBounds_toArray, List.set_cons_zero, List.set_cons_succ]
          refine wpAnyH_take (i := 1) (v := ?_) rfl (by kernel_rfl) (by kernel_rfl) (by kernel_rfl) (fun _ _ _ h => h) (Or.inl ⟨by rfl, ?_⟩) (by assumption) ?_
          rotate_left; focus (intro w hSw; (try dsimp only at hSw); go_simp; try (with_reducible rfl); done)
          try simp only [List.getElem_toArray, List.getElem_cons_zero, List.getElem_cons_succ, Act.put, List.setIfInBounds_toArray, List.set_cons_zero, List.set_cons_succ]
          refine wpAnyH_take (i := 2) (v := ?_) rfl (by kernel_rfl) (by kernel_rfl) (by kernel_rfl) (fun _ _ _ h => h) (Or.inl ⟨by rfl, ?_⟩) (by assumption) ?_
          rotate_left; focus (intro w hSw; (try dsimp only at hSw); go_simp; try (with_reducible rfl); done)
          try simp only [List.getElem_toArray, List.getElem_cons_zero, List.getElem_cons_succ, Act.put, List.setIfInBounds_toArray, List.set_cons_zero, List.set_cons_succ]
          refine wpAnyH_take (i := 3) (v := ?_) rfl (by kernel_rfl) (by kernel_rfl) (by kernel_rfl) (fun _ _ _ h => h) (Or.inl ⟨by rfl, ?_⟩) (by assumption) ?_
          rotate_left; focus (intro w hSw; (try dsimp only at hSw); go_simp; try (with_reducible rfl); done)
          try simp only [List.getElem_toArray, List.getElem_cons_zero, List.getElem_cons_succ, Act.put, List.setIfInBounds_toArray, List.set_cons_zero, List.set_cons_succ]
          refine wpAnyH_take (i := 4) (v := ?_) rfl (by kernel_rfl) (by kernel_rfl) (by kernel_rfl) (fun _ _ _ h => h) (Or.inl ⟨by rfl, ?_⟩) (by assumption) ?_
          rotate_left; focus (intro w hSw; (try dsimp only at hSw); go_simp; try (with_reducible rfl); done)
          try simp only [List.getElem_toArray, List.getElem_cons_zero, List.getElem_cons_succ, Act.put, List.setIfInBounds_toArray, List.set_cons_zero, List.set_cons_succ]
          refine wpAnyH_take (i := 5) (v := ?_) rfl (by kernel_rfl) (by kernel_rfl) (by kernel_rfl) (fun _ _ _ h => h) (Or.inl ⟨by rfl, ?_⟩) (by assumption) ?_
          rotate_left; focus (intro w hSw; (try dsimp only at hSw); go_simp; try (with_reducible rfl); done)
          try simp only [List.getElem_toArray, List.getElem_cons_zero, List.getElem_cons_succ, Act.put, List.setIfInBounds_toArray, List.set_cons_zero, List.set_cons_succ]
          refine wpAnyH_ready (rs := [6]) (by kernel_rfl) (by simp) ?_
          refine AllReadyH.cons rfl (fun K hK => ?_) AllReadyH.nil
          (refine St.stepMemoPut2 rfl (.tmp 121) (.tmp 122) (.tmp 123) rfl Tryd.underlying57 HST.out.drew HEE.out rfl q i hqq hii rfl HKL.out o0 o1 o2 o3 (HEI.out.trans HU.out) rfl ?_; intro w9 hst9; have x1b := (hst9.nth 1 rfl).celAt (i := 1) rfl; obtain ⟨z0b, z1b⟩ := hst9.at2 5 rfl; obtain ⟨y0b, y1b, y2b, y3b⟩ := Rm.cls4 hst9 3 rfl; have HST := Lib.hid hst9; clear hst9)
          refine hK.out _ _ ?_ (fun hHeld => ?_)
          · (try dsimp only); (first | exact ⟨x1, z0, z1, y0, y1, y2, y3⟩ | exact ⟨x1b, z0b, z1b, y0b, y1b, y2b, y3b⟩)
          clear hK K
          try simp only [List.getElem_toArray, List.getElem_cons_zero, List.getElem_cons_succ, Act.put, List.setIfInBounds_toArray, List.set_cons_zero, List.set_cons_succ]
          refine wpAnyH_done (by kernel_rfl) ?_ _
          clear x1 z0 z1 y0 y1 y2 y3 x1b z0b z1b
          have HSTR2 := Lib.hid (HST.out.pick [6, 0, 1, 2] 8 rfl rfl)
          clear HST
          go_wp2_with (refine St.rowOp rfl 24 (.tmp 6) (.tmp 124) rfl (W.heap.size + 1) #[.int .u64 o0, .int .u64 o1, .int .u64 o2, .int .u64 o3] rfl rfl HSTR2.out Cs.clInfo rfl (by simp [Value.oneCell']) ?_; intro w9 hst9; have HST9 := Lib.hid hst9; clear hst9 HSTR2)
          refine bodyPost_ret (results_row rfl _ _ (W.heap.size + 1) 24 _ _ rfl (HST9.out.heapAt 0 rfl) Tryd.underlying24 rfl Cs.clInfo) rfl ?_
          exact ⟨by rw [HU.out]; rfl, HST9.out.drop⟩
        · rw [decide_eq_false hz] at heq
          have hok1 := HSX.out.ok
          have hok2 := HSX.out.ok2
          have hle : ∀ x, x < 256 → Dm.mem [n0, n1, n2, n3] x = true → x ≤ s.size := fun x hx hm => (Rm.RT.le (Rm.mt_fwd f kid0) (HSX.out.rt x hx (HSX.out.sub x hx hm)) hi).2
          have hstep := Rm.star_step hs (Rm.mt_fwd f kid0) hi HSX.out
          have hms := Rm.ms_step (out := [o0, o1, o2, o3]) (nx := Rm.less (Rm.each s.size (Rm.mt s.size (Rm.bt s) f kid0) [n0, n1, n2, n3]) [o0, o1, o2, o3]) hz Rm.less_less.symm hok1
          have HE := Lib.hid (fun μ' W' h => rxEach_any w0 HTT.out E gm gs s hs w1 fp (Rm.mt s.size (Rm.bt s) f kid0) _ _ _ _ _ _ _ _ ⟨_, _, _, rfl⟩ ⟨_, _, _, rfl⟩ ⟨_, rfl⟩ ⟨_, _, _, _, rfl, rfl, rfl, rfl⟩ ⟨_, rfl⟩ HI0.out [n0, n1, n2, n3] hok2 hle μ' W' h)
          obtain ⟨q1, q2, q3, q4, hq⟩ := Cs.okFour (show Dm.Ok4 (Rm.each s.size (Rm.mt s.size (Rm.bt s) f kid0) [n0, n1, n2, n3]) from Cs.ok_of _)
          have hqok : Dm.Ok4 [q1, q2, q3, q4] := hq ▸ Cs.ok_of _
          rw [hq] at HE hstep hms
          have HNT := Lib.hid (fun W => clNot_any [o0, o1, o2, o3] hok1 W)
          have HMT := Lib.hid (fun W => clMeet_any [q1, q2, q3, q4] (Cs.inv [o0, o1, o2, o3]) hqok (Rm.ok_inv hok1) W)
          rw [Rm.meet_less hqok hok1] at HMT
          obtain ⟨m0, m1, m2, m3, hm⟩ := Cs.okFour (Rm.ok_inv hok1)
          obtain ⟨x0, x1, x2, x3, hx⟩ := Cs.okFour (show Dm.Ok4 (Rm.less [q1, q2, q3, q4] [o0, o1, o2, o3]) from Cs.ok_of _)
          have hxok : Dm.Ok4 [x0, x1, x2, x3] := hx ▸ Cs.ok_of _
          rw [hm] at HNT HMT
          rw [hx] at HMT hstep hms
          have HJ := Lib.hid (fun W => clJoin_any [o0, o1, o2, o3] [x0, x1, x2, x3] hok1 hxok W)
          rw [← Rm.join_eq hok1 hxok] at HJ
          obtain ⟨u0, u1, u2, u3, hu⟩ := Cs.okFour (show Dm.Ok4 (Rm.join [o0, o1, o2, o3] [x0, x1, x2, x3]) from Cs.ok_of _)
          rw [hu] at HJ hstep hms
          rw [show Cs.clV [u0, u1, u2, u3] = .agg #[.int .u64 u0, .int .u64 u1, .int .u64 u2, .int .u64 u3] from rfl, show Cs.clV [o0, o1, o2, o3] = .agg #[.int .u64 o0, .int .u64 o1, .int .u64 o2, .int .u64 o3] from rfl, show Cs.clV [x0, x1, x2, x3] = .agg #[.int .u64 x0, .int .u64 x1, .int .u64 x2, .int .u64 x3] from rfl] at HJ
          rw [show Cs.clV [m0, m1, m2, m3] = .agg #[.int .u64 m0, .int .u64 m1, .int .u64 m2, .int .u64 m3] from rfl, show Cs.clV [o0, o1, o2, o3] = .agg #[.int .u64 o0, .int .u64 o1, .int .u64 o2, .int .u64 o3] from rfl] at HNT
          rw [show Cs.clV [m0, m1, m2, m3] = .agg #[.int .u64 m0, .int .u64 m1, .int .u64 m2, .int .u64 m3] from rfl, show Cs.clV [x0, x1, x2, x3] = .agg #[.int .u64 x0, .int .u64 x1, .int .u64 x2, .int .u64 x3] from rfl, show Cs.clV [q1, q2, q3, q4] = .agg #[.int .u64 q1, .int .u64 q2, .int .u64 q3, .int .u64 q4] from rfl] at HMT
          rw [show Cs.clV [n0, n1, n2, n3] = .agg #[.int .u64 n0, .int .u64 n1, .int .u64 n2, .int .u64 n3] from rfl, show Cs.clV [q1, q2, q3, q4] = .agg #[.int .u64 q1, .int .u64 q2, .int .u64 q3, .int .u64 q4] from rfl] at HE
          have HSTEP := Lib.hid hstep
          have HMS := Lib.hid hms
          clear hstep hms hu hx hm hq hqok hxok hok1 hok2 hle hz HSX
          go_wp2_with (fail)
          clear heq y0 y1 y2 y3
          have HN := Lib.hid HST.out.drew
          clear HST
          refine Rm.shareW (P := ?PSh20) (A := fun g12 W20 => St w0 W20 (Rm.base E gm gs s w1 fp (aCel g11 24 #[.int .u64 n0, .int .u64 n1, .int .u64 n2, .int .u64 n3] :: aCel g10 24 #[.int .u64 o0, .int .u64 o1, .int .u64 o2, .int .u64 o3] :: aCel g8 24 #[.int .u64 v0, .int .u64 v1, .int .u64 v2, .int .u64 v3] :: aCel (W.heap.size + 1 + 1) 122 #[.int .i64 (q : Int), .int .i64 (i : Int)] :: aCel (W.heap.size + 1) 24 #[.int .u64 0, .int .u64 0, .int .u64 0, .int .u64 0] :: aCel W.heap.size 64 #[.int .i64 6, .int .u64 a0, .int .u64 a1, .int .u64 a2, .int .u64 a3, .slice xa xl xc, .int .i64 (q : Int), .slice (some ⟨bk, ok, none⟩) kl.length ck] :: aCel g12 24 #[.int .u64 x0, .int .u64 x1, .int .u64 x2, .int .u64 x3] :: μ))) (fun REST => ?h3) ?h4
          case h3 =>
            refine wp_region_held_drew (S := (fun w' => w'.cell? ⟨g11, 0, none⟩ = some (.int .u64 n0) ∧ w'.cell? ⟨g11, 1, none⟩ = some (.int .u64 n1) ∧ w'.cell? ⟨g11, 2, none⟩ = some (.int .u64 n2) ∧ w'.cell? ⟨g11, 3, none⟩ = some (.int .u64 n3) ∧ w'.cell? ⟨g10, 0, none⟩ = some (.int .u64 o0) ∧ w'.cell? ⟨g10, 1, none⟩ = some (.int .u64 o1) ∧ w'.cell? ⟨g10, 2, none⟩ = some (.int .u64 o2) ∧ w'.cell? ⟨g10, 3, none⟩ = some (.int .u64 o3) ∧ w'.cell? ⟨W.heap.size, 7, none⟩ = some (.slice (some ⟨bk, ok, none⟩) kl.length ck) ∧ w'.cell? ⟨bk, ok, none⟩ = some (.int .i64 kk0) ∧ w'.cell? ⟨bk, ok + 1, none⟩ = some (.int .u64 b00) ∧ w'.cell? ⟨bk, ok + 2, none⟩ = some (.int .u64 b01) ∧ w'.cell? ⟨bk, ok + 3, none⟩ = some (.int .u64 b02) ∧ w'.cell? ⟨bk, ok + 4, none⟩ = some (.int .u64 b03) ∧ w'.cell? ⟨bk, ok + 5, none⟩ = some (.slice ax0 lx0 cx0) ∧ w'.cell? ⟨bk, ok + 6, none⟩ = some (.int .i64 (q0 : Int)) ∧ w'.cell? ⟨bk, ok + 7, none⟩ = some (.slice ay0 ly0 cy0))) (by kernel_rfl) ?_ (fun hHeld => ?_)
            · (try dsimp only); (exact ⟨(HN.out.nth 3 rfl).celAt (i := 0) rfl, (HN.out.nth 3 rfl).celAt (i := 1) rfl, (HN.out.nth 3 rfl).celAt (i := 2) rfl, (HN.out.nth 3 rfl).celAt (i := 3) rfl, (HN.out.nth 4 rfl).celAt (i := 0) rfl, (HN.out.nth 4 rfl).celAt (i := 1) rfl, (HN.out.nth 4 rfl).celAt (i := 2) rfl, (HN.out.nth 4 rfl).celAt (i := 3) rfl, (HN.out.nth 8 rfl).celAt (i := 7) rfl, HN.out.asCell 2 rfl HBK.out e00.out, HN.out.asCell 2 rfl HBK.out e01.out, HN.out.asCell 2 rfl HBK.out e02.out, HN.out.asCell 2 rfl HBK.out e03.out, HN.out.asCell 2 rfl HBK.out e04.out, HN.out.asCell 2 rfl HBK.out e05.out, HN.out.asCell 2 rfl HBK.out e06.out, HN.out.asCell 2 rfl HBK.out e07.out⟩)

            refine wpAnyH_take (i := 0) (v := ?_) rfl (by kernel_rfl) (by kernel_rfl) (by kernel_rfl) (fun _ _ _ h => h) (Or.inl ⟨by rfl, ?_⟩) (by assumption) ?_
            rotate_left; focus (intro w hSw; (try dsimp only at hSw); go_simp; try (with_reducible rfl); done)
            try simp only [List.getElem_toArray, List.getElem_cons_zero, List.getElem_cons_succ, Act.put, List.setIfInBounds_toArray, List.set_cons_zero, List.set_cons_succ]
            refine wpAnyH_take (i := 1) (v := ?_) rfl (by kernel_rfl) (by kernel_rfl) (by kernel_rfl) (fun _ _ _ h => h) (Or.inl ⟨by rfl, ?_⟩) (by assumption) ?_
            rotate_left; focus (intro w hSw; (try dsimp only at hSw); go_simp; try (with_reducible rfl); done)
            try simp only [List.getElem_toArray, List.getElem_cons_zero, List.getElem_cons_succ, Act.put, List.setIfInBounds_toArray, List.set_cons_zero, List.set_cons_succ]
            refine wpAnyH_take (i := 2) (v := ?_) rfl (by kernel_rfl) (by kernel_rfl) (by kernel_rfl) (fun _ _ _ h => h) (Or.inl ⟨by rfl, ?_⟩) (by assumption) ?_
            rotate_left; focus (intro w hSw; (try dsimp only at hSw); go_simp; try (with_reducible rfl); done)
            try simp only [List.getElem_toArray, List.getElem_cons_zero, List.getElem_cons_succ, Act.put, List.setIfInBounds_toArray, List.set_cons_zero, List.set_cons_succ]
            refine wpAnyH_take (i := 3) (v := ?_) rfl (by kernel_rfl) (by kernel_rfl) (by kernel_rfl) (fun _ _ _ h => h) (Or.inl ⟨by rfl, ?_⟩) (by assumption) ?_
            rotate_left; focus (intro w hSw; (try dsimp only at hSw); go_simp; try (with_reducible rfl); done)
            try simp only [List.getElem_toArray, List.getElem_cons_zero, List.getElem_cons_succ, Act.put, List.setIfInBounds_toArray, List.set_cons_zero, List.set_cons_succ]
            refine wpAnyH_take (i := 4) (v := ?_) rfl (by kernel_rfl) (by kernel_rfl) (by kernel_rfl) (fun _ _ _ h => h) (Or.inl ⟨by rfl, ?_⟩) (by assumption) ?_
            rotate_left; focus (intro w hSw; (try dsimp only at hSw); go_simp; try (with_reducible rfl); done)
            try simp only [List.getElem_toArray, List.getElem_cons_zero, List.getElem_cons_succ, Act.put, List.setIfInBounds_toArray, List.set_cons_zero, List.set_cons_succ]
            refine wpAnyH_take (i := 5) (v := ?_) rfl (by kernel_rfl) (by kernel_rfl) (by kernel_rfl) (fun _ _ _ h => h) (Or.inl ⟨by rfl, ?_⟩) (by assumption) ?_
            rotate_left; focus (intro w hSw; (try dsimp only at hSw); go_simp; try (with_reducible rfl); done)
            try simp only [List.getElem_toArray, List.getElem_cons_zero, List.getElem_cons_succ, Act.put, List.setIfInBounds_toArray, List.set_cons_zero, List.set_cons_succ]
            refine wpAnyH_take (i := 7) (v := ?_) rfl (by kernel_rfl) (by kernel_rfl) (by kernel_rfl) (fun _ _ _ h => h) (Or.inl ⟨by rfl, ?_⟩) (by assumption) ?_
            rotate_left; focus (intro w hSw; (try dsimp only at hSw); go_simp; try (with_reducible rfl); done)
            try simp only [List.getElem_toArray, List.getElem_cons_zero, List.getElem_cons_succ, Act.put, List.setIfInBounds_toArray, List.set_cons_zero, List.set_cons_succ]
            refine wpAnyH_ready (rs := [6, 10]) (by kernel_rfl) (by simp) ?_
            refine AllReadyH.cons rfl (fun K hK => ?_) (AllReadyH.cons rfl (fun K hK => ?_) (AllReadyH.nil))
            · skip
              go_simp
              (go_at_call 60; refine (HE.out _ _ HN.out).mono ?_; rintro e w6 ⟨rfl, hst6⟩; have HN := Lib.hid hst6; clear hst6)
              refine hK.out _ _ ?_ (fun hHeld => ?_)
              · (try dsimp only); (exact ⟨(HN.out.nth 3 rfl).celAt (i := 0) rfl, (HN.out.nth 3 rfl).celAt (i := 1) rfl, (HN.out.nth 3 rfl).celAt (i := 2) rfl, (HN.out.nth 3 rfl).celAt (i := 3) rfl, (HN.out.nth 4 rfl).celAt (i := 0) rfl, (HN.out.nth 4 rfl).celAt (i := 1) rfl, (HN.out.nth 4 rfl).celAt (i := 2) rfl, (HN.out.nth 4 rfl).celAt (i := 3) rfl, (HN.out.nth 8 rfl).celAt (i := 7) rfl, HN.out.asCell 2 rfl HBK.out e00.out, HN.out.asCell 2 rfl HBK.out e01.out, HN.out.asCell 2 rfl HBK.out e02.out, HN.out.asCell 2 rfl HBK.out e03.out, HN.out.asCell 2 rfl HBK.out e04.out, HN.out.asCell 2 rfl HBK.out e05.out, HN.out.asCell 2 rfl HBK.out e06.out, HN.out.asCell 2 rfl HBK.out e07.out⟩)
              clear hK K
              try simp only [List.getElem_toArray, List.getElem_cons_zero, List.getElem_cons_succ, Act.put, List.setIfInBounds_toArray, List.set_cons_zero, List.set_cons_succ]
              refine wpAnyH_ready (rs := [8, 10]) (by kernel_rfl) (by simp) ?_
              refine AllReadyH.cons rfl (fun K hK => ?_) (AllReadyH.cons rfl (fun K hK => ?_) (AllReadyH.nil))
              · skip
                go_simp
                (go_at_call 62; refine (HNT.out _).mono ?_; rintro e w6 ⟨rfl, hb6⟩; have HN := Lib.hid (HN.out.call hb6); clear hb6)
                refine hK.out _ _ ?_ (fun hHeld => ?_)
                · (try dsimp only); (exact ⟨(HN.out.nth 3 rfl).celAt (i := 0) rfl, (HN.out.nth 3 rfl).celAt (i := 1) rfl, (HN.out.nth 3 rfl).celAt (i := 2) rfl, (HN.out.nth 3 rfl).celAt (i := 3) rfl, (HN.out.nth 4 rfl).celAt (i := 0) rfl, (HN.out.nth 4 rfl).celAt (i := 1) rfl, (HN.out.nth 4 rfl).celAt (i := 2) rfl, (HN.out.nth 4 rfl).celAt (i := 3) rfl, (HN.out.nth 8 rfl).celAt (i := 7) rfl, HN.out.asCell 2 rfl HBK.out e00.out, HN.out.asCell 2 rfl HBK.out e01.out, HN.out.asCell 2 rfl HBK.out e02.out, HN.out.asCell 2 rfl HBK.out e03.out, HN.out.asCell 2 rfl HBK.out e04.out, HN.out.asCell 2 rfl HBK.out e05.out, HN.out.asCell 2 rfl HBK.out e06.out, HN.out.asCell 2 rfl HBK.out e07.out⟩)
                clear hK K
                try simp only [List.getElem_toArray, List.getElem_cons_zero, List.getElem_cons_succ, Act.put, List.setIfInBounds_toArray, List.set_cons_zero, List.set_cons_succ]
                refine wpAnyH_ready (rs := [9, 10]) (by kernel_rfl) (by simp) ?_
                refine AllReadyH.cons rfl (fun K hK => ?_) (AllReadyH.cons rfl (fun K hK => ?_) (AllReadyH.nil))
                · skip
                  go_simp
                  (go_at_call 61; refine (HMT.out _).mono ?_; rintro e w6 ⟨rfl, hb6⟩; have HN := Lib.hid (HN.out.call hb6); clear hb6)
                  refine hK.out _ _ ?_ (fun hHeld => ?_)
                  · (try dsimp only); (exact ⟨(HN.out.nth 3 rfl).celAt (i := 0) rfl, (HN.out.nth 3 rfl).celAt (i := 1) rfl, (HN.out.nth 3 rfl).celAt (i := 2) rfl, (HN.out.nth 3 rfl).celAt (i := 3) rfl, (HN.out.nth 4 rfl).celAt (i := 0) rfl, (HN.out.nth 4 rfl).celAt (i := 1) rfl, (HN.out.nth 4 rfl).celAt (i := 2) rfl, (HN.out.nth 4 rfl).celAt (i := 3) rfl, (HN.out.nth 8 rfl).celAt (i := 7) rfl, HN.out.asCell 2 rfl HBK.out e00.out, HN.out.asCell 2 rfl HBK.out e01.out, HN.out.asCell 2 rfl HBK.out e02.out, HN.out.asCell 2 rfl HBK.out e03.out, HN.out.asCell 2 rfl HBK.out e04.out, HN.out.asCell 2 rfl HBK.out e05.out, HN.out.asCell 2 rfl HBK.out e06.out, HN.out.asCell 2 rfl HBK.out e07.out⟩)
                  clear hK K
                  try simp only [List.getElem_toArray, List.getElem_cons_zero, List.getElem_cons_succ, Act.put, List.setIfInBounds_toArray, List.set_cons_zero, List.set_cons_succ]
                  refine wpAnyH_ready (rs := [10]) (by kernel_rfl) (by simp) ?_
                  refine AllReadyH.cons rfl (fun K hK => ?_) (AllReadyH.nil)
                  (refine Cp.stepAlloc (T := 24) (cs := #[.int .u64 0, .int .u64 0, .int .u64 0, .int .u64 0]) rfl rfl (by intro u; kernel_rfl) HN.out ?_; intro g12 w8 hst8; have HN : Hid (St w0 w8 (Rm.base E gm gs s w1 fp (aCel g11 24 #[.int .u64 n0, .int .u64 n1, .int .u64 n2, .int .u64 n3] :: aCel g10 24 #[.int .u64 o0, .int .u64 o1, .int .u64 o2, .int .u64 o3] :: aCel g8 24 #[.int .u64 v0, .int .u64 v1, .int .u64 v2, .int .u64 v3] :: aCel (W.heap.size + 1 + 1) 122 #[.int .i64 (q : Int), .int .i64 (i : Int)] :: aCel (W.heap.size + 1) 24 #[.int .u64 0, .int .u64 0, .int .u64 0, .int .u64 0] :: aCel W.heap.size 64 #[.int .i64 6, .int .u64 a0, .int .u64 a1, .int .u64 a2, .int .u64 a3, .slice xa xl xc, .int .i64 (q : Int), .slice (some ⟨bk, ok, none⟩) kl.length ck] :: aCel g12 24 #[.int .u64 0, .int .u64 0, .int .u64 0, .int .u64 0] :: μ))) := Lib.hid (hst8.pick [1, 2, 3, 4, 5, 6, 7, 8, 9, 0] 10 rfl rfl); clear hst8)
                  refine hK.out _ _ ?_ (fun hHeld => ?_)
                  · (try dsimp only); (exact ⟨(HN.out.nth 3 rfl).celAt (i := 0) rfl, (HN.out.nth 3 rfl).celAt (i := 1) rfl, (HN.out.nth 3 rfl).celAt (i := 2) rfl, (HN.out.nth 3 rfl).celAt (i := 3) rfl, (HN.out.nth 4 rfl).celAt (i := 0) rfl, (HN.out.nth 4 rfl).celAt (i := 1) rfl, (HN.out.nth 4 rfl).celAt (i := 2) rfl, (HN.out.nth 4 rfl).celAt (i := 3) rfl, (HN.out.nth 8 rfl).celAt (i := 7) rfl, HN.out.asCell 2 rfl HBK.out e00.out, HN.out.asCell 2 rfl HBK.out e01.out, HN.out.asCell 2 rfl HBK.out e02.out, HN.out.asCell 2 rfl HBK.out e03.out, HN.out.asCell 2 rfl HBK.out e04.out, HN.out.asCell 2 rfl HBK.out e05.out, HN.out.asCell 2 rfl HBK.out e06.out, HN.out.asCell 2 rfl HBK.out e07.out⟩)
                  clear hK K
                  try simp only [List.getElem_toArray, List.getElem_cons_zero, List.getElem_cons_succ, Act.put, List.setIfInBounds_toArray, List.set_cons_zero, List.set_cons_succ]
                  refine wpAnyH_ready (rs := [11]) (by kernel_rfl) (by simp) ?_
                  refine AllReadyH.cons rfl (fun K hK => ?_) AllReadyH.nil
                  (refine St.stepRow rfl 24 (.tmp 12) (.tmp 112) rfl g12 #[.int .u64 x0, .int .u64 x1, .int .u64 x2, .int .u64 x3] rfl rfl (HN.out.pick [9, 0, 1, 2, 3, 4, 5, 6, 7, 8] 10 rfl rfl) Cs.clInfo rfl (by simp [Value.oneCell']) ?_; intro w9 hst9; have HN : Hid (St w0 w9 (Rm.base E gm gs s w1 fp (aCel g11 24 #[.int .u64 n0, .int .u64 n1, .int .u64 n2, .int .u64 n3] :: aCel g10 24 #[.int .u64 o0, .int .u64 o1, .int .u64 o2, .int .u64 o3] :: aCel g8 24 #[.int .u64 v0, .int .u64 v1, .int .u64 v2, .int .u64 v3] :: aCel (W.heap.size + 1 + 1) 122 #[.int .i64 (q : Int), .int .i64 (i : Int)] :: aCel (W.heap.size + 1) 24 #[.int .u64 0, .int .u64 0, .int .u64 0, .int .u64 0] :: aCel W.heap.size 64 #[.int .i64 6, .int .u64 a0, .int .u64 a1, .int .u64 a2, .int .u64 a3, .slice xa xl xc, .int .i64 (q : Int), .slice (some ⟨bk, ok, none⟩) kl.length ck] :: aCel g12 24 #[.int .u64 x0, .int .u64 x1, .int .u64 x2, .int .u64 x3] :: μ))) := Lib.hid (hst9.pick [1, 2, 3, 4, 5, 6, 7, 8, 9, 0] 10 rfl rfl); clear hst9)
                  refine hK.out _ _ ?_ (fun hHeld => ?_)
                  · (try dsimp only); (exact ⟨(HN.out.nth 3 rfl).celAt (i := 0) rfl, (HN.out.nth 3 rfl).celAt (i := 1) rfl, (HN.out.nth 3 rfl).celAt (i := 2) rfl, (HN.out.nth 3 rfl).celAt (i := 3) rfl, (HN.out.nth 4 rfl).celAt (i := 0) rfl, (HN.out.nth 4 rfl).celAt (i := 1) rfl, (HN.out.nth 4 rfl).celAt (i := 2) rfl, (HN.out.nth 4 rfl).celAt (i := 3) rfl, (HN.out.nth 8 rfl).celAt (i := 7) rfl, HN.out.asCell 2 rfl HBK.out e00.out, HN.out.asCell 2 rfl HBK.out e01.out, HN.out.asCell 2 rfl HBK.out e02.out, HN.out.asCell 2 rfl HBK.out e03.out, HN.out.asCell 2 rfl HBK.out e04.out, HN.out.asCell 2 rfl HBK.out e05.out, HN.out.asCell 2 rfl HBK.out e06.out, HN.out.asCell 2 rfl HBK.out e07.out⟩)
                  clear hK K
                  try simp only [List.getElem_toArray, List.getElem_cons_zero, List.getElem_cons_succ, Act.put, List.setIfInBounds_toArray, List.set_cons_zero, List.set_cons_succ]
                  refine wpAnyH_done (by kernel_rfl) ?_ _
                  exact REST g12 _ HN.out
                · skip
                  (refine Cp.stepAlloc (T := 24) (cs := #[.int .u64 0, .int .u64 0, .int .u64 0, .int .u64 0]) rfl rfl (by intro u; kernel_rfl) HN.out ?_; intro g12 w8 hst8; have HN : Hid (St w0 w8 (Rm.base E gm gs s w1 fp (aCel g11 24 #[.int .u64 n0, .int .u64 n1, .int .u64 n2, .int .u64 n3] :: aCel g10 24 #[.int .u64 o0, .int .u64 o1, .int .u64 o2, .int .u64 o3] :: aCel g8 24 #[.int .u64 v0, .int .u64 v1, .int .u64 v2, .int .u64 v3] :: aCel (W.heap.size + 1 + 1) 122 #[.int .i64 (q : Int), .int .i64 (i : Int)] :: aCel (W.heap.size + 1) 24 #[.int .u64 0, .int .u64 0, .int .u64 0, .int .u64 0] :: aCel W.heap.size 64 #[.int .i64 6, .int .u64 a0, .int .u64 a1, .int .u64 a2, .int .u64 a3, .slice xa xl xc, .int .i64 (q : Int), .slice (some ⟨bk, ok, none⟩) kl.length ck] :: aCel g12 24 #[.int .u64 0, .int .u64 0, .int .u64 0, .int .u64 0] :: μ))) := Lib.hid (hst8.pick [1, 2, 3, 4, 5, 6, 7, 8, 9, 0] 10 rfl rfl); clear hst8)
                  refine hK.out _ _ ?_ (fun hHeld => ?_)
                  · (try dsimp only); (exact ⟨(HN.out.nth 3 rfl).celAt (i := 0) rfl, (HN.out.nth 3 rfl).celAt (i := 1) rfl, (HN.out.nth 3 rfl).celAt (i := 2) rfl, (HN.out.nth 3 rfl).celAt (i := 3) rfl, (HN.out.nth 4 rfl).celAt (i := 0) rfl, (HN.out.nth 4 rfl).celAt (i := 1) rfl, (HN.out.nth 4 rfl).celAt (i := 2) rfl, (HN.out.nth 4 rfl).celAt (i := 3) rfl, (HN.out.nth 8 rfl).celAt (i := 7) rfl, HN.out.asCell 2 rfl HBK.out e00.out, HN.out.asCell 2 rfl HBK.out e01.out, HN.out.asCell 2 rfl HBK.out e02.out, HN.out.asCell 2 rfl HBK.out e03.out, HN.out.asCell 2 rfl HBK.out e04.out, HN.out.asCell 2 rfl HBK.out e05.out, HN.out.asCell 2 rfl HBK.out e06.out, HN.out.asCell 2 rfl HBK.out e07.out⟩)
                  clear hK K
                  try simp only [List.getElem_toArray, List.getElem_cons_zero, List.getElem_cons_succ, Act.put, List.setIfInBounds_toArray, List.set_cons_zero, List.set_cons_succ]
                  refine wpAnyH_ready (rs := [9]) (by kernel_rfl) (by simp) ?_
                  refine AllReadyH.cons rfl (fun K hK => ?_) (AllReadyH.nil)
                  go_simp
                  (go_at_call 61; refine (HMT.out _).mono ?_; rintro e w6 ⟨rfl, hb6⟩; have HN := Lib.hid (HN.out.call hb6); clear hb6)
                  refine hK.out _ _ ?_ (fun hHeld => ?_)
                  · (try dsimp only); (exact ⟨(HN.out.nth 3 rfl).celAt (i := 0) rfl, (HN.out.nth 3 rfl).celAt (i := 1) rfl, (HN.out.nth 3 rfl).celAt (i := 2) rfl, (HN.out.nth 3 rfl).celAt (i := 3) rfl, (HN.out.nth 4 rfl).celAt (i := 0) rfl, (HN.out.nth 4 rfl).celAt (i := 1) rfl, (HN.out.nth 4 rfl).celAt (i := 2) rfl, (HN.out.nth 4 rfl).celAt (i := 3) rfl, (HN.out.nth 8 rfl).celAt (i := 7) rfl, HN.out.asCell 2 rfl HBK.out e00.out, HN.out.asCell 2 rfl HBK.out e01.out, HN.out.asCell 2 rfl HBK.out e02.out, HN.out.asCell 2 rfl HBK.out e03.out, HN.out.asCell 2 rfl HBK.out e04.out, HN.out.asCell 2 rfl HBK.out e05.out, HN.out.asCell 2 rfl HBK.out e06.out, HN.out.asCell 2 rfl HBK.out e07.out⟩)
                  clear hK K
                  try simp only [List.getElem_toArray, List.getElem_cons_zero, List.getElem_cons_succ, Act.put, List.setIfInBounds_toArray, List.set_cons_zero, List.set_cons_succ]
                  refine wpAnyH_ready (rs := [11]) (by kernel_rfl) (by simp) ?_
                  refine AllReadyH.cons rfl (fun K hK => ?_) AllReadyH.nil
                  (refine St.stepRow rfl 24 (.tmp 12) (.tmp 112) rfl g12 #[.int .u64 x0, .int .u64 x1, .int .u64 x2, .int .u64 x3] rfl rfl (HN.out.pick [9, 0, 1, 2, 3, 4, 5, 6, 7, 8] 10 rfl rfl) Cs.clInfo rfl (by simp [Value.oneCell']) ?_; intro w9 hst9; have HN : Hid (St w0 w9 (Rm.base E gm gs s w1 fp (aCel g11 24 #[.int .u64 n0, .int .u64 n1, .int .u64 n2, .int .u64 n3] :: aCel g10 24 #[.int .u64 o0, .int .u64 o1, .int .u64 o2, .int .u64 o3] :: aCel g8 24 #[.int .u64 v0, .int .u64 v1, .int .u64 v2, .int .u64 v3] :: aCel (W.heap.size + 1 + 1) 122 #[.int .i64 (q : Int), .int .i64 (i : Int)] :: aCel (W.heap.size + 1) 24 #[.int .u64 0, .int .u64 0, .int .u64 0, .int .u64 0] :: aCel W.heap.size 64 #[.int .i64 6, .int .u64 a0, .int .u64 a1, .int .u64 a2, .int .u64 a3, .slice xa xl xc, .int .i64 (q : Int), .slice (some ⟨bk, ok, none⟩) kl.length ck] :: aCel g12 24 #[.int .u64 x0, .int .u64 x1, .int .u64 x2, .int .u64 x3] :: μ))) := Lib.hid (hst9.pick [1, 2, 3, 4, 5, 6, 7, 8, 9, 0] 10 rfl rfl); clear hst9)
                  refine hK.out _ _ ?_ (fun hHeld => ?_)
                  · (try dsimp only); (exact ⟨(HN.out.nth 3 rfl).celAt (i := 0) rfl, (HN.out.nth 3 rfl).celAt (i := 1) rfl, (HN.out.nth 3 rfl).celAt (i := 2) rfl, (HN.out.nth 3 rfl).celAt (i := 3) rfl, (HN.out.nth 4 rfl).celAt (i := 0) rfl, (HN.out.nth 4 rfl).celAt (i := 1) rfl, (HN.out.nth 4 rfl).celAt (i := 2) rfl, (HN.out.nth 4 rfl).celAt (i := 3) rfl, (HN.out.nth 8 rfl).celAt (i := 7) rfl, HN.out.asCell 2 rfl HBK.out e00.out, HN.out.asCell 2 rfl HBK.out e01.out, HN.out.asCell 2 rfl HBK.out e02.out, HN.out.asCell 2 rfl HBK.out e03.out, HN.out.asCell 2 rfl HBK.out e04.out, HN.out.asCell 2 rfl HBK.out e05.out, HN.out.asCell 2 rfl HBK.out e06.out, HN.out.asCell 2 rfl HBK.out e07.out⟩)
                  clear hK K
                  try simp only [List.getElem_toArray, List.getElem_cons_zero, List.getElem_cons_succ, Act.put, List.setIfInBounds_toArray, List.set_cons_zero, List.set_cons_succ]
                  refine wpAnyH_done (by kernel_rfl) ?_ _
                  exact REST g12 _ HN.out
              · skip
                (refine Cp.stepAlloc (T := 24) (cs := #[.int .u64 0, .int .u64 0, .int .u64 0, .int .u64 0]) rfl rfl (by intro u; kernel_rfl) HN.out ?_; intro g12 w8 hst8; have HN : Hid (St w0 w8 (Rm.base E gm gs s w1 fp (aCel g11 24 #[.int .u64 n0, .int .u64 n1, .int .u64 n2, .int .u64 n3] :: aCel g10 24 #[.int .u64 o0, .int .u64 o1, .int .u64 o2, .int .u64 o3] :: aCel g8 24 #[.int .u64 v0, .int .u64 v1, .int .u64 v2, .int .u64 v3] :: aCel (W.heap.size + 1 + 1) 122 #[.int .i64 (q : Int), .int .i64 (i : Int)] :: aCel (W.heap.size + 1) 24 #[.int .u64 0, .int .u64 0, .int .u64 0, .int .u64 0] :: aCel W.heap.size 64 #[.int .i64 6, .int .u64 a0, .int .u64 a1, .int .u64 a2, .int .u64 a3, .slice xa xl xc, .int .i64 (q : Int), .slice (some ⟨bk, ok, none⟩) kl.length ck] :: aCel g12 24 #[.int .u64 0, .int .u64 0, .int .u64 0, .int .u64 0] :: μ))) := Lib.hid (hst8.pick [1, 2, 3, 4, 5, 6, 7, 8, 9, 0] 10 rfl rfl); clear hst8)
                refine hK.out _ _ ?_ (fun hHeld => ?_)
                · (try dsimp only); (exact ⟨(HN.out.nth 3 rfl).celAt (i := 0) rfl, (HN.out.nth 3 rfl).celAt (i := 1) rfl, (HN.out.nth 3 rfl).celAt (i := 2) rfl, (HN.out.nth 3 rfl).celAt (i := 3) rfl, (HN.out.nth 4 rfl).celAt (i := 0) rfl, (HN.out.nth 4 rfl).celAt (i := 1) rfl, (HN.out.nth 4 rfl).celAt (i := 2) rfl, (HN.out.nth 4 rfl).celAt (i := 3) rfl, (HN.out.nth 8 rfl).celAt (i := 7) rfl, HN.out.asCell 2 rfl HBK.out e00.out, HN.out.asCell 2 rfl HBK.out e01.out, HN.out.asCell 2 rfl HBK.out e02.out, HN.out.asCell 2 rfl HBK.out e03.out, HN.out.asCell 2 rfl HBK.out e04.out, HN.out.asCell 2 rfl HBK.out e05.out, HN.out.asCell 2 rfl HBK.out e06.out, HN.out.asCell 2 rfl HBK.out e07.out⟩)
                clear hK K
                try simp only [List.getElem_toArray, List.getElem_cons_zero, List.getElem_cons_succ, Act.put, List.setIfInBounds_toArray, List.set_cons_zero, List.set_cons_succ]
                refine wpAnyH_ready (rs := [8]) (by kernel_rfl) (by simp) ?_
                refine AllReadyH.cons rfl (fun K hK => ?_) (AllReadyH.nil)
                go_simp
                (go_at_call 62; refine (HNT.out _).mono ?_; rintro e w6 ⟨rfl, hb6⟩; have HN := Lib.hid (HN.out.call hb6); clear hb6)
                refine hK.out _ _ ?_ (fun hHeld => ?_)
                · (try dsimp only); (exact ⟨(HN.out.nth 3 rfl).celAt (i := 0) rfl, (HN.out.nth 3 rfl).celAt (i := 1) rfl, (HN.out.nth 3 rfl).celAt (i := 2) rfl, (HN.out.nth 3 rfl).celAt (i := 3) rfl, (HN.out.nth 4 rfl).celAt (i := 0) rfl, (HN.out.nth 4 rfl).celAt (i := 1) rfl, (HN.out.nth 4 rfl).celAt (i := 2) rfl, (HN.out.nth 4 rfl).celAt (i := 3) rfl, (HN.out.nth 8 rfl).celAt (i := 7) rfl, HN.out.asCell 2 rfl HBK.out e00.out, HN.out.asCell 2 rfl HBK.out e01.out, HN.out.asCell 2 rfl HBK.out e02.out, HN.out.asCell 2 rfl HBK.out e03.out, HN.out.asCell 2 rfl HBK.out e04.out, HN.out.asCell 2 rfl HBK.out e05.out, HN.out.asCell 2 rfl HBK.out e06.out, HN.out.asCell 2 rfl HBK.out e07.out⟩)
                clear hK K
                try simp only [List.getElem_toArray, List.getElem_cons_zero, List.getElem_cons_succ, Act.put, List.setIfInBounds_toArray, List.set_cons_zero, List.set_cons_succ]
                refine wpAnyH_ready (rs := [9]) (by kernel_rfl) (by simp) ?_
                refine AllReadyH.cons rfl (fun K hK => ?_) (AllReadyH.nil)
                go_simp
                (go_at_call 61; refine (HMT.out _).mono ?_; rintro e w6 ⟨rfl, hb6⟩; have HN := Lib.hid (HN.out.call hb6); clear hb6)
                refine hK.out _ _ ?_ (fun hHeld => ?_)
                · (try dsimp only); (exact ⟨(HN.out.nth 3 rfl).celAt (i := 0) rfl, (HN.out.nth 3 rfl).celAt (i := 1) rfl, (HN.out.nth 3 rfl).celAt (i := 2) rfl, (HN.out.nth 3 rfl).celAt (i := 3) rfl, (HN.out.nth 4 rfl).celAt (i := 0) rfl, (HN.out.nth 4 rfl).celAt (i := 1) rfl, (HN.out.nth 4 rfl).celAt (i := 2) rfl, (HN.out.nth 4 rfl).celAt (i := 3) rfl, (HN.out.nth 8 rfl).celAt (i := 7) rfl, HN.out.asCell 2 rfl HBK.out e00.out, HN.out.asCell 2 rfl HBK.out e01.out, HN.out.asCell 2 rfl HBK.out e02.out, HN.out.asCell 2 rfl HBK.out e03.out, HN.out.asCell 2 rfl HBK.out e04.out, HN.out.asCell 2 rfl HBK.out e05.out, HN.out.asCell 2 rfl HBK.out e06.out, HN.out.asCell 2 rfl HBK.out e07.out⟩)
                clear hK K
                try simp only [List.getElem_toArray, List.getElem_cons_zero, List.getElem_cons_succ, Act.put, List.setIfInBounds_toArray, List.set_cons_zero, List.set_cons_succ]
                refine wpAnyH_ready (rs := [11]) (by kernel_rfl) (by simp) ?_
                refine AllReadyH.cons rfl (fun K hK => ?_) AllReadyH.nil
                (refine St.stepRow rfl 24 (.tmp 12) (.tmp 112) rfl g12 #[.int .u64 x0, .int .u64 x1, .int .u64 x2, .int .u64 x3] rfl rfl (HN.out.pick [9, 0, 1, 2, 3, 4, 5, 6, 7, 8] 10 rfl rfl) Cs.clInfo rfl (by simp [Value.oneCell']) ?_; intro w9 hst9; have HN : Hid (St w0 w9 (Rm.base E gm gs s w1 fp (aCel g11 24 #[.int .u64 n0, .int .u64 n1, .int .u64 n2, .int .u64 n3] :: aCel g10 24 #[.int .u64 o0, .int .u64 o1, .int .u64 o2, .int .u64 o3] :: aCel g8 24 #[.int .u64 v0, .int .u64 v1, .int .u64 v2, .int .u64 v3] :: aCel (W.heap.size + 1 + 1) 122 #[.int .i64 (q : Int), .int .i64 (i : Int)] :: aCel (W.heap.size + 1) 24 #[.int .u64 0, .int .u64 0, .int .u64 0, .int .u64 0] :: aCel W.heap.size 64 #[.int .i64 6, .int .u64 a0, .int .u64 a1, .int .u64 a2, .int .u64 a3, .slice xa xl xc, .int .i64 (q : Int), .slice (some ⟨bk, ok, none⟩) kl.length ck] :: aCel g12 24 #[.int .u64 x0, .int .u64 x1, .int .u64 x2, .int .u64 x3] :: μ))) := Lib.hid (hst9.pick [1, 2, 3, 4, 5, 6, 7, 8, 9, 0] 10 rfl rfl); clear hst9)
                refine hK.out _ _ ?_ (fun hHeld => ?_)
                · (try dsimp only); (exact ⟨(HN.out.nth 3 rfl).celAt (i := 0) rfl, (HN.out.nth 3 rfl).celAt (i := 1) rfl, (HN.out.nth 3 rfl).celAt (i := 2) rfl, (HN.out.nth 3 rfl).celAt (i := 3) rfl, (HN.out.nth 4 rfl).celAt (i := 0) rfl, (HN.out.nth 4 rfl).celAt (i := 1) rfl, (HN.out.nth 4 rfl).celAt (i := 2) rfl, (HN.out.nth 4 rfl).celAt (i := 3) rfl, (HN.out.nth 8 rfl).celAt (i := 7) rfl, HN.out.asCell 2 rfl HBK.out e00.out, HN.out.asCell 2 rfl HBK.out e01.out, HN.out.asCell 2 rfl HBK.out e02.out, HN.out.asCell 2 rfl HBK.out e03.out, HN.out.asCell 2 rfl HBK.out e04.out, HN.out.asCell 2 rfl HBK.out e05.out, HN.out.asCell 2 rfl HBK.out e06.out, HN.out.asCell 2 rfl HBK.out e07.out⟩)
                clear hK K
                try simp only [List.getElem_toArray, List.getElem_cons_zero, List.getElem_cons_succ, Act.put, List.setIfInBounds_toArray, List.set_cons_zero, List.set_cons_succ]
                refine wpAnyH_done (by kernel_rfl) ?_ _
                exact REST g12 _ HN.out
            · skip
              (refine Cp.stepAlloc (T := 24) (cs := #[.int .u64 0, .int .u64 0, .int .u64 0, .int .u64 0]) rfl rfl (by intro u; kernel_rfl) HN.out ?_; intro g12 w8 hst8; have HN : Hid (St w0 w8 (Rm.base E gm gs s w1 fp (aCel g11 24 #[.int .u64 n0, .int .u64 n1, .int .u64 n2, .int .u64 n3] :: aCel g10 24 #[.int .u64 o0, .int .u64 o1, .int .u64 o2, .int .u64 o3] :: aCel g8 24 #[.int .u64 v0, .int .u64 v1, .int .u64 v2, .int .u64 v3] :: aCel (W.heap.size + 1 + 1) 122 #[.int .i64 (q : Int), .int .i64 (i : Int)] :: aCel (W.heap.size + 1) 24 #[.int .u64 0, .int .u64 0, .int .u64 0, .int .u64 0] :: aCel W.heap.size 64 #[.int .i64 6, .int .u64 a0, .int .u64 a1, .int .u64 a2, .int .u64 a3, .slice xa xl xc, .int .i64 (q : Int), .slice (some ⟨bk, ok, none⟩) kl.length ck] :: aCel g12 24 #[.int .u64 0, .int .u64 0, .int .u64 0, .int .u64 0] :: μ))) := Lib.hid (hst8.pick [1, 2, 3, 4, 5, 6, 7, 8, 9, 0] 10 rfl rfl); clear hst8)
              refine hK.out _ _ ?_ (fun hHeld => ?_)
              · (try dsimp only); (exact ⟨(HN.out.nth 3 rfl).celAt (i := 0) rfl, (HN.out.nth 3 rfl).celAt (i := 1) rfl, (HN.out.nth 3 rfl).celAt (i := 2) rfl, (HN.out.nth 3 rfl).celAt (i := 3) rfl, (HN.out.nth 4 rfl).celAt (i := 0) rfl, (HN.out.nth 4 rfl).celAt (i := 1) rfl, (HN.out.nth 4 rfl).celAt (i := 2) rfl, (HN.out.nth 4 rfl).celAt (i := 3) rfl, (HN.out.nth 8 rfl).celAt (i := 7) rfl, HN.out.asCell 2 rfl HBK.out e00.out, HN.out.asCell 2 rfl HBK.out e01.out, HN.out.asCell 2 rfl HBK.out e02.out, HN.out.asCell 2 rfl HBK.out e03.out, HN.out.asCell 2 rfl HBK.out e04.out, HN.out.asCell 2 rfl HBK.out e05.out, HN.out.asCell 2 rfl HBK.out e06.out, HN.out.asCell 2 rfl HBK.out e07.out⟩)
              clear hK K
              try simp only [List.getElem_toArray, List.getElem_cons_zero, List.getElem_cons_succ, Act.put, List.setIfInBounds_toArray, List.set_cons_zero, List.set_cons_succ]
              refine wpAnyH_ready (rs := [6]) (by kernel_rfl) (by simp) ?_
              refine AllReadyH.cons rfl (fun K hK => ?_) (AllReadyH.nil)
              go_simp
              (go_at_call 60; refine (HE.out _ _ HN.out).mono ?_; rintro e w6 ⟨rfl, hst6⟩; have HN := Lib.hid hst6; clear hst6)
              refine hK.out _ _ ?_ (fun hHeld => ?_)
              · (try dsimp only); (exact ⟨(HN.out.nth 3 rfl).celAt (i := 0) rfl, (HN.out.nth 3 rfl).celAt (i := 1) rfl, (HN.out.nth 3 rfl).celAt (i := 2) rfl, (HN.out.nth 3 rfl).celAt (i := 3) rfl, (HN.out.nth 4 rfl).celAt (i := 0) rfl, (HN.out.nth 4 rfl).celAt (i := 1) rfl, (HN.out.nth 4 rfl).celAt (i := 2) rfl, (HN.out.nth 4 rfl).celAt (i := 3) rfl, (HN.out.nth 8 rfl).celAt (i := 7) rfl, HN.out.asCell 2 rfl HBK.out e00.out, HN.out.asCell 2 rfl HBK.out e01.out, HN.out.asCell 2 rfl HBK.out e02.out, HN.out.asCell 2 rfl HBK.out e03.out, HN.out.asCell 2 rfl HBK.out e04.out, HN.out.asCell 2 rfl HBK.out e05.out, HN.out.asCell 2 rfl HBK.out e06.out, HN.out.asCell 2 rfl HBK.out e07.out⟩)
              clear hK K
              try simp only [List.getElem_toArray, List.getElem_cons_zero, List.getElem_cons_succ, Act.put, List.setIfInBounds_toArray, List.set_cons_zero, List.set_cons_succ]
              refine wpAnyH_ready (rs := [8]) (by kernel_rfl) (by simp) ?_
              refine AllReadyH.cons rfl (fun K hK => ?_) (AllReadyH.nil)
              go_simp
              (go_at_call 62; refine (HNT.out _).mono ?_; rintro e w6 ⟨rfl, hb6⟩; have HN := Lib.hid (HN.out.call hb6); clear hb6)
              refine hK.out _ _ ?_ (fun hHeld => ?_)
              · (try dsimp only); (exact ⟨(HN.out.nth 3 rfl).celAt (i := 0) rfl, (HN.out.nth 3 rfl).celAt (i := 1) rfl, (HN.out.nth 3 rfl).celAt (i := 2) rfl, (HN.out.nth 3 rfl).celAt (i := 3) rfl, (HN.out.nth 4 rfl).celAt (i := 0) rfl, (HN.out.nth 4 rfl).celAt (i := 1) rfl, (HN.out.nth 4 rfl).celAt (i := 2) rfl, (HN.out.nth 4 rfl).celAt (i := 3) rfl, (HN.out.nth 8 rfl).celAt (i := 7) rfl, HN.out.asCell 2 rfl HBK.out e00.out, HN.out.asCell 2 rfl HBK.out e01.out, HN.out.asCell 2 rfl HBK.out e02.out, HN.out.asCell 2 rfl HBK.out e03.out, HN.out.asCell 2 rfl HBK.out e04.out, HN.out.asCell 2 rfl HBK.out e05.out, HN.out.asCell 2 rfl HBK.out e06.out, HN.out.asCell 2 rfl HBK.out e07.out⟩)
              clear hK K
              try simp only [List.getElem_toArray, List.getElem_cons_zero, List.getElem_cons_succ, Act.put, List.setIfInBounds_toArray, List.set_cons_zero, List.set_cons_succ]
              refine wpAnyH_ready (rs := [9]) (by kernel_rfl) (by simp) ?_
              refine AllReadyH.cons rfl (fun K hK => ?_) (AllReadyH.nil)
              go_simp
              (go_at_call 61; refine (HMT.out _).mono ?_; rintro e w6 ⟨rfl, hb6⟩; have HN := Lib.hid (HN.out.call hb6); clear hb6)
              refine hK.out _ _ ?_ (fun hHeld => ?_)
              · (try dsimp only); (exact ⟨(HN.out.nth 3 rfl).celAt (i := 0) rfl, (HN.out.nth 3 rfl).celAt (i := 1) rfl, (HN.out.nth 3 rfl).celAt (i := 2) rfl, (HN.out.nth 3 rfl).celAt (i := 3) rfl, (HN.out.nth 4 rfl).celAt (i := 0) rfl, (HN.out.nth 4 rfl).celAt (i := 1) rfl, (HN.out.nth 4 rfl).celAt (i := 2) rfl, (HN.out.nth 4 rfl).celAt (i := 3) rfl, (HN.out.nth 8 rfl).celAt (i := 7) rfl, HN.out.asCell 2 rfl HBK.out e00.out, HN.out.asCell 2 rfl HBK.out e01.out, HN.out.asCell 2 rfl HBK.out e02.out, HN.out.asCell 2 rfl HBK.out e03.out, HN.out.asCell 2 rfl HBK.out e04.out, HN.out.asCell 2 rfl HBK.out e05.out, HN.out.asCell 2 rfl HBK.out e06.out, HN.out.asCell 2 rfl HBK.out e07.out⟩)
              clear hK K
              try simp only [List.getElem_toArray, List.getElem_cons_zero, List.getElem_cons_succ, Act.put, List.setIfInBounds_toArray, List.set_cons_zero, List.set_cons_succ]
              refine wpAnyH_ready (rs := [11]) (by kernel_rfl) (by simp) ?_
              refine AllReadyH.cons rfl (fun K hK => ?_) AllReadyH.nil
              (refine St.stepRow rfl 24 (.tmp 12) (.tmp 112) rfl g12 #[.int .u64 x0, .int .u64 x1, .int .u64 x2, .int .u64 x3] rfl rfl (HN.out.pick [9, 0, 1, 2, 3, 4, 5, 6, 7, 8] 10 rfl rfl) Cs.clInfo rfl (by simp [Value.oneCell']) ?_; intro w9 hst9; have HN : Hid (St w0 w9 (Rm.base E gm gs s w1 fp (aCel g11 24 #[.int .u64 n0, .int .u64 n1, .int .u64 n2, .int .u64 n3] :: aCel g10 24 #[.int .u64 o0, .int .u64 o1, .int .u64 o2, .int .u64 o3] :: aCel g8 24 #[.int .u64 v0, .int .u64 v1, .int .u64 v2, .int .u64 v3] :: aCel (W.heap.size + 1 + 1) 122 #[.int .i64 (q : Int), .int .i64 (i : Int)] :: aCel (W.heap.size + 1) 24 #[.int .u64 0, .int .u64 0, .int .u64 0, .int .u64 0] :: aCel W.heap.size 64 #[.int .i64 6, .int .u64 a0, .int .u64 a1, .int .u64 a2, .int .u64 a3, .slice xa xl xc, .int .i64 (q : Int), .slice (some ⟨bk, ok, none⟩) kl.length ck] :: aCel g12 24 #[.int .u64 x0, .int .u64 x1, .int .u64 x2, .int .u64 x3] :: μ))) := Lib.hid (hst9.pick [1, 2, 3, 4, 5, 6, 7, 8, 9, 0] 10 rfl rfl); clear hst9)
              refine hK.out _ _ ?_ (fun hHeld => ?_)
              · (try dsimp only); (exact ⟨(HN.out.nth 3 rfl).celAt (i := 0) rfl, (HN.out.nth 3 rfl).celAt (i := 1) rfl, (HN.out.nth 3 rfl).celAt (i := 2) rfl, (HN.out.nth 3 rfl).celAt (i := 3) rfl, (HN.out.nth 4 rfl).celAt (i := 0) rfl, (HN.out.nth 4 rfl).celAt (i := 1) rfl, (HN.out.nth 4 rfl).celAt (i := 2) rfl, (HN.out.nth 4 rfl).celAt (i := 3) rfl, (HN.out.nth 8 rfl).celAt (i := 7) rfl, HN.out.asCell 2 rfl HBK.out e00.out, HN.out.asCell 2 rfl HBK.out e01.out, HN.out.asCell 2 rfl HBK.out e02.out, HN.out.asCell 2 rfl HBK.out e03.out, HN.out.asCell 2 rfl HBK.out e04.out, HN.out.asCell 2 rfl HBK.out e05.out, HN.out.asCell 2 rfl HBK.out e06.out, HN.out.asCell 2 rfl HBK.out e07.out⟩)
              clear hK K
              try simp only [List.getElem_toArray, List.getElem_cons_zero, List.getElem_cons_succ, Act.put, List.setIfInBounds_toArray, List.set_cons_zero, List.set_cons_succ]
              refine wpAnyH_done (by kernel_rfl) ?_ _
              exact REST g12 _ HN.out
          intro g12 W20 hst
          have HN := Lib.hid hst.drew
          clear hst HE HNT HMT
          go_wp2_with (fail)
          obtain ⟨y0, y1, y2, y3⟩ := Rm.cls4 HN.out 4 rfl
          refine wp_region_held_drew (S := (fun w' => w'.cell? ⟨g12, 0, none⟩ = some (.int .u64 x0) ∧ w'.cell? ⟨g12, 1, none⟩ = some (.int .u64 x1) ∧ w'.cell? ⟨g12, 2, none⟩ = some (.int .u64 x2) ∧ w'.cell? ⟨g12, 3, none⟩ = some (.int .u64 x3))) (by kernel_rfl) ?_ (fun hHeld => ?_)
          · (try dsimp only); (exact ⟨(HN.out.nth 9 rfl).celAt (i := 0) rfl, (HN.out.nth 9 rfl).celAt (i := 1) rfl, (HN.out.nth 9 rfl).celAt (i := 2) rfl, (HN.out.nth 9 rfl).celAt (i := 3) rfl⟩)

          refine wpAnyH_take (i := 1) (v := ?_) rfl (by kernel_rfl) (by kernel_rfl) (by kernel_rfl) (fun _ _ _ h => h) (Or.inl ⟨by rfl, ?_⟩) (by assumption) ?_
          rotate_left; focus (intro w hSw; (try dsimp only at hSw); go_simp; try (with_reducible rfl); done)
          try simp only [List.getElem_toArray, List.getElem_cons_zero, List.getElem_cons_succ, Act.put, List.setIfInBounds_toArray, List.set_cons_zero, List.set_cons_succ]
          refine wpAnyH_take (i := 3) (v := ?_) rfl (by kernel_rfl) (by kernel_rfl) (by kernel_rfl) (fun _ _ _ h => h) (Or.inl ⟨by rfl, ?_⟩) (by assumption) ?_
          rotate_left; focus (intro w hSw; (try dsimp only at hSw); go_simp; try (with_reducible rfl); done)
          try simp only [List.getElem_toArray, List.getElem_cons_zero, List.getElem_cons_succ, Act.put, List.setIfInBounds_toArray, List.set_cons_zero, List.set_cons_succ]
          refine wpAnyH_ready (rs := [0]) (by kernel_rfl) (by simp) ?_
          refine AllReadyH.cons rfl (fun K hK => ?_) AllReadyH.nil
          go_simp
          refine hK.out _ _ ?_ (fun hHeld => ?_)
          · (try dsimp only); (exact ⟨(HN.out.nth 9 rfl).celAt (i := 0) rfl, (HN.out.nth 9 rfl).celAt (i := 1) rfl, (HN.out.nth 9 rfl).celAt (i := 2) rfl, (HN.out.nth 9 rfl).celAt (i := 3) rfl⟩)
          clear hK K
          try simp only [List.getElem_toArray, List.getElem_cons_zero, List.getElem_cons_succ, Act.put, List.setIfInBounds_toArray, List.set_cons_zero, List.set_cons_succ]
          refine wpAnyH_ready (rs := [2]) (by kernel_rfl) (by simp) ?_
          refine AllReadyH.cons rfl (fun K hK => ?_) AllReadyH.nil
          go_simp
          (go_at_call 59; refine (HJ.out _).mono ?_; rintro e w6 ⟨rfl, hb6⟩; have HN := Lib.hid (HN.out.call hb6); clear hb6)
          refine hK.out _ _ ?_ (fun hHeld => ?_)
          · (try dsimp only); (exact ⟨(HN.out.nth 9 rfl).celAt (i := 0) rfl, (HN.out.nth 9 rfl).celAt (i := 1) rfl, (HN.out.nth 9 rfl).celAt (i := 2) rfl, (HN.out.nth 9 rfl).celAt (i := 3) rfl⟩)
          clear hK K
          try simp only [List.getElem_toArray, List.getElem_cons_zero, List.getElem_cons_succ, Act.put, List.setIfInBounds_toArray, List.set_cons_zero, List.set_cons_succ]
          refine wpAnyH_ready (rs := [4]) (by kernel_rfl) (by simp) ?_
          refine AllReadyH.cons rfl (fun K hK => ?_) AllReadyH.nil
          (refine St.stepRow rfl 24 (.tmp 10) (.tmp 115) rfl g10 #[.int .u64 u0, .int .u64 u1, .int .u64 u2, .int .u64 u3] rfl rfl (HN.out.pick [4, 0, 1, 2, 3, 5, 6, 7, 8, 9] 10 rfl rfl) Cs.clInfo rfl (by simp [Value.oneCell']) ?_; intro w9 hst9; have HN : Hid (St w0 w9 (Rm.base E gm gs s w1 fp (aCel g11 24 #[.int .u64 n0, .int .u64 n1, .int .u64 n2, .int .u64 n3] :: aCel g10 24 #[.int .u64 u0, .int .u64 u1, .int .u64 u2, .int .u64 u3] :: aCel g8 24 #[.int .u64 v0, .int .u64 v1, .int .u64 v2, .int .u64 v3] :: aCel (W.heap.size + 1 + 1) 122 #[.int .i64 (q : Int), .int .i64 (i : Int)] :: aCel (W.heap.size + 1) 24 #[.int .u64 0, .int .u64 0, .int .u64 0, .int .u64 0] :: aCel W.heap.size 64 #[.int .i64 6, .int .u64 a0, .int .u64 a1, .int .u64 a2, .int .u64 a3, .slice xa xl xc, .int .i64 (q : Int), .slice (some ⟨bk, ok, none⟩) kl.length ck] :: aCel g12 24 #[.int .u64 x0, .int .u64 x1, .int .u64 x2, .int .u64 x3] :: μ))) := Lib.hid (hst9.pick [1, 2, 3, 4, 0, 5, 6, 7, 8, 9] 10 rfl rfl); clear hst9)
          refine hK.out _ _ ?_ (fun hHeld => ?_)
          · (try dsimp only); (exact ⟨(HN.out.nth 9 rfl).celAt (i := 0) rfl, (HN.out.nth 9 rfl).celAt (i := 1) rfl, (HN.out.nth 9 rfl).celAt (i := 2) rfl, (HN.out.nth 9 rfl).celAt (i := 3) rfl⟩)
          clear hK K
          try simp only [List.getElem_toArray, List.getElem_cons_zero, List.getElem_cons_succ, Act.put, List.setIfInBounds_toArray, List.set_cons_zero, List.set_cons_succ]
          refine wpAnyH_ready (rs := [5]) (by kernel_rfl) (by simp) ?_
          refine AllReadyH.cons rfl (fun K hK => ?_) AllReadyH.nil
          (refine St.stepRow rfl 24 (.tmp 11) (.tmp 116) rfl g11 #[.int .u64 x0, .int .u64 x1, .int .u64 x2, .int .u64 x3] rfl rfl (HN.out.pick [3, 0, 1, 2, 4, 5, 6, 7, 8, 9] 10 rfl rfl) Cs.clInfo rfl (by simp [Value.oneCell']) ?_; intro w9 hst9; have HN : Hid (St w0 w9 (Rm.base E gm gs s w1 fp (aCel g11 24 #[.int .u64 x0, .int .u64 x1, .int .u64 x2, .int .u64 x3] :: aCel g10 24 #[.int .u64 u0, .int .u64 u1, .int .u64 u2, .int .u64 u3] :: aCel g8 24 #[.int .u64 v0, .int .u64 v1, .int .u64 v2, .int .u64 v3] :: aCel (W.heap.size + 1 + 1) 122 #[.int .i64 (q : Int), .int .i64 (i : Int)] :: aCel (W.heap.size + 1) 24 #[.int .u64 0, .int .u64 0, .int .u64 0, .int .u64 0] :: aCel W.heap.size 64 #[.int .i64 6, .int .u64 a0, .int .u64 a1, .int .u64 a2, .int .u64 a3, .slice xa xl xc, .int .i64 (q : Int), .slice (some ⟨bk, ok, none⟩) kl.length ck] :: aCel g12 24 #[.int .u64 x0, .int .u64 x1, .int .u64 x2, .int .u64 x3] :: μ))) := Lib.hid (hst9.pick [1, 2, 3, 0, 4, 5, 6, 7, 8, 9] 10 rfl rfl); clear hst9)
          refine hK.out _ _ ?_ (fun hHeld => ?_)
          · (try dsimp only); (exact ⟨(HN.out.nth 9 rfl).celAt (i := 0) rfl, (HN.out.nth 9 rfl).celAt (i := 1) rfl, (HN.out.nth 9 rfl).celAt (i := 2) rfl, (HN.out.nth 9 rfl).celAt (i := 3) rfl⟩)
          clear hK K
          try simp only [List.getElem_toArray, List.getElem_cons_zero, List.getElem_cons_succ, Act.put, List.setIfInBounds_toArray, List.set_cons_zero, List.set_cons_succ]
          refine wpAnyH_done (by kernel_rfl) ?_ _
          clear y0 y1 y2 y3
          obtain ⟨y0, y1, y2, y3⟩ := Rm.cls4 HN.out 3 rfl
          have HST := Lib.hid ((HN.out.alloc #[.int .u64 x0, .int .u64 x1, .int .u64 x2, .int .u64 x3] 24).pick [1, 2, 3, 0, 5, 6, 7, 8, 9] 11 rfl rfl)
          clear HN
          go_wp2_with (fail)
          go_roundg (Rm.ms [u0, u1, u2, u3] [x0, x1, x2, x3])
          case measure => rw [HGZ.out]; exact HMS.out
          case rel => exact ⟨u0, u1, u2, u3, x0, x1, x2, x3, _, rfl, rfl, HSTEP, HST.out⟩
    · clear HKN
      subst hkd
      obtain ⟨n0, n1, n2, n3, n4, n5, n6, n7⟩ := Nm.cel8 HST0.out 7 rfl
      have ws := (HST0.out.nth 1 rfl).celAt (i := 0) rfl
      obtain ⟨rfl, -, hbk⟩ := K3.out (by omega)
      have HBK := Lib.hid hbk
      clear hbk
      have hkN : 0 < kl.length := by omega
      have hkI : (0 : Int) < kl.length := by omega
      have hkN1 : 1 < kl.length := by omega
      have hkI1 : (1 : Int) < kl.length := by omega
      obtain ⟨b00, b01, b02, b03, ax0, lx0, cx0, ay0, ly0, cy0, -, e00, e01, e02, e03, e04, e05, e06, e07, hen0⟩ := K4.out 0 (by omega)
      obtain ⟨g01, g02, g03⟩ := HKC.out 0 (by omega)
      have HI0 := Lib.hid (IH.out (kl.getD 0 Rx.nil) (q + 1 + Nm.sumK f (kl.take 0)) #[.int .i64 (kl.getD 0 Rx.nil).kind, .int .u64 b00, .int .u64 b01, .int .u64 b02, .int .u64 b03, .slice ax0 lx0 cx0, .int .i64 ((q + 1 + Nm.sumK f (kl.take 0) : Nat) : Int), .slice ay0 ly0 cy0] hen0 g01 g02 g03)
      simp only [Nat.zero_mul, Nat.one_mul, Nat.add_zero] at e00 e01 e02 e03 e04 e05 e06 e07
      clear hen0 g01 g02 g03
      obtain ⟨b10, b11, b12, b13, ax1, lx1, cx1, ay1, ly1, cy1, -, e10, e11, e12, e13, e14, e15, e16, e17, hen1⟩ := K4.out 1 (by omega)
      obtain ⟨g11, g12, g13⟩ := HKC.out 1 (by omega)
      have HI1 := Lib.hid (IH.out (kl.getD 1 Rx.nil) (q + 1 + Nm.sumK f (kl.take 1)) #[.int .i64 (kl.getD 1 Rx.nil).kind, .int .u64 b10, .int .u64 b11, .int .u64 b12, .int .u64 b13, .slice ax1 lx1 cx1, .int .i64 ((q + 1 + Nm.sumK f (kl.take 1) : Nat) : Int), .slice ay1 ly1 cy1] hen1 g11 g12 g13)
      simp only [Nat.zero_mul, Nat.one_mul, Nat.add_zero] at e10 e11 e12 e13 e14 e15 e16 e17
      clear hen1 g11 g12 g13
      have hfin := HCAT.out rfl
      clear hkl
      generalize (kl.getD 0 Rx.nil).kind = kk0 at *
      generalize q + 1 + Nm.sumK f (kl.take 0) = q0 at *
      generalize kl.getD 0 Rx.nil = kid0 at *
      generalize (kl.getD 1 Rx.nil).kind = kk1 at *
      generalize q + 1 + Nm.sumK f (kl.take 1) = q1 at *
      generalize kl.getD 1 Rx.nil = kid1 at *
      have e00 := Lib.hid e00
      have e01 := Lib.hid e01
      have e02 := Lib.hid e02
      have e03 := Lib.hid e03
      have e04 := Lib.hid e04
      have e05 := Lib.hid e05
      have e06 := Lib.hid e06
      have e07 := Lib.hid e07
      have e10 := Lib.hid e10
      have e11 := Lib.hid e11
      have e12 := Lib.hid e12
      have e13 := Lib.hid e13
      have e14 := Lib.hid e14
      have e15 := Lib.hid e15
      have e16 := Lib.hid e16
      have e17 := Lib.hid e17
      obtain ⟨r0, r1, r2, r3, hr⟩ := Cs.okFour (Rm.en_ok (n := s.size) (B := Rm.bt s) f kid0 i)
      obtain ⟨u0, u1, u2, u3, hu⟩ := Cs.okFour (show Dm.Ok4 S by rw [← HEI.out]; exact HEE.out q i)
      have HU := Lib.hid hu
      have hrok : Dm.Ok4 [r0, r1, r2, r3] := hr ▸ Rm.en_ok _ _ _
      have hrn : ∀ x, x < 256 → Dm.mem [r0, r1, r2, r3] x = true → x ≤ s.size := fun x hx hm => by
        rw [← hr, Rm.en_mem hx] at hm
        exact (Rm.mt_fwd f kid0 i x hi hm).2
      rw [hr, hu] at hfin
      have HA := Lib.hid (fun μ' W' h => (show Calls Tryd.prog 25 #[.pointer (some ⟨gs, 0, none⟩), .agg #[.int .i64 kk0, .int .u64 b00, .int .u64 b01, .int .u64 b02, .int .u64 b03, .slice ax0 lx0 cx0, .int .i64 (q0 : Int), .slice ay0 ly0 cy0], .int .i64 (i : Int)] W' (fun e w' => e = .returned (.agg #[.int .u64 r0, .int .u64 r1, .int .u64 r2, .int .u64 r3]) ∧ St w0 w' (Rm.base E gm gs s w1 fp μ')) by have h2 := HI0.out i μ' W' hi h; dsimp only at h2; rw [hr] at h2; exact h2))
      have HB := Lib.hid (fun μ' W' h => (show Calls Tryd.prog 60 #[.pointer (some ⟨gs, 0, none⟩), .agg #[.int .u64 r0, .int .u64 r1, .int .u64 r2, .int .u64 r3], .agg #[.int .i64 kk1, .int .u64 b10, .int .u64 b11, .int .u64 b12, .int .u64 b13, .slice ax1 lx1 cx1, .int .i64 (q1 : Int), .slice ay1 ly1 cy1]] W' (fun e w' => e = .returned (.agg #[.int .u64 u0, .int .u64 u1, .int .u64 u2, .int .u64 u3]) ∧ St w0 w' (Rm.base E gm gs s w1 fp μ')) by have h2 := rxEach_any w0 HTT.out E gm gs s hs w1 fp (Rm.mt s.size (Rm.bt s) f kid1) _ _ _ _ _ _ _ _ ⟨_, _, _, rfl⟩ ⟨_, _, _, rfl⟩ ⟨_, rfl⟩ ⟨_, _, _, _, rfl, rfl, rfl, rfl⟩ ⟨_, rfl⟩ HI1.out [r0, r1, r2, r3] hrok hrn μ' W' h; rw [hfin] at h2; exact h2))
      clear hr hu hfin HI0 HI1
      go_wp2_with (fail)
      generalize hW3 : W2.alloc (.cells #[.int .u64 0, .int .u64 0, .int .u64 0, .int .u64 0] 24) = W3 at *
      generalize W2.heap.size = g10 at *
      clear hW3
      have HST := Lib.hid HST0.out.drew
      clear n0 n1 n2 n3 n4 n5 n6 n7 ws HST0
      refine wp_region_held_drew (S := (fun w' => w'.cell? ⟨W.heap.size, 7, none⟩ = some (.slice (some ⟨bk, ok, none⟩) kl.length ck) ∧ w'.cell? ⟨bk, ok, none⟩ = some (.int .i64 kk0) ∧ w'.cell? ⟨bk, ok + 1, none⟩ = some (.int .u64 b00) ∧ w'.cell? ⟨bk, ok + 2, none⟩ = some (.int .u64 b01) ∧ w'.cell? ⟨bk, ok + 3, none⟩ = some (.int .u64 b02) ∧ w'.cell? ⟨bk, ok + 4, none⟩ = some (.int .u64 b03) ∧ w'.cell? ⟨bk, ok + 5, none⟩ = some (.slice ax0 lx0 cx0) ∧ w'.cell? ⟨bk, ok + 6, none⟩ = some (.int .i64 (q0 : Int)) ∧ w'.cell? ⟨bk, ok + 7, none⟩ = some (.slice ay0 ly0 cy0) ∧ w'.cell? ⟨bk, ok + 8, none⟩ = some (.int .i64 kk1) ∧ w'.cell? ⟨bk, ok + 8 + 1, none⟩ = some (.int .u64 b10) ∧ w'.cell? ⟨bk, ok + 8 + 2, none⟩ = some (.int .u64 b11) ∧ w'.cell? ⟨bk, ok + 8 + 3, none⟩ = some (.int .u64 b12) ∧ w'.cell? ⟨bk, ok + 8 + 4, none⟩ = some (.int .u64 b13) ∧ w'.cell? ⟨bk, ok + 8 + 5, none⟩ = some (.slice ax1 lx1 cx1) ∧ w'.cell? ⟨bk, ok + 8 + 6, none⟩ = some (.int .i64 (q1 : Int)) ∧ w'.cell? ⟨bk, ok + 8 + 7, none⟩ = some (.slice ay1 ly1 cy1))) (by kernel_rfl) ?_ (fun hHeld => ?_)
      · (try dsimp only); (first | exact ⟨((HST.out.nth 7 rfl).celAt (i := 7) rfl), (HST.out.asCell 2 rfl HBK.out e00.out), (HST.out.asCell 2 rfl HBK.out e01.out), (HST.out.asCell 2 rfl HBK.out e02.out), (HST.out.asCell 2 rfl HBK.out e03.out), (HST.out.asCell 2 rfl HBK.out e04.out), (HST.out.asCell 2 rfl HBK.out e05.out), (HST.out.asCell 2 rfl HBK.out e06.out), (HST.out.asCell 2 rfl HBK.out e07.out), (HST.out.asCell 2 rfl HBK.out e10.out), (HST.out.asCell 2 rfl HBK.out e11.out), (HST.out.asCell 2 rfl HBK.out e12.out), (HST.out.asCell 2 rfl HBK.out e13.out), (HST.out.asCell 2 rfl HBK.out e14.out), (HST.out.asCell 2 rfl HBK.out e15.out), (HST.out.asCell 2 rfl HBK.out e16.out), (HST.out.asCell 2 rfl HBK.out e17.out)⟩ | exact ⟨((HSTX.out.nth 7 rfl).celAt (i := 7) rfl), (HSTX.out.asCell 2 rfl HBK.out e00.out), (HSTX.out.asCell 2 rfl HBK.out e01.out), (HSTX.out.asCell 2 rfl HBK.out e02.out), (HSTX.out.asCell 2 rfl HBK.out e03.out), (HSTX.out.asCell 2 rfl HBK.out e04.out), (HSTX.out.asCell 2 rfl HBK.out e05.out), (HSTX.out.asCell 2 rfl HBK.out e06.out), (HSTX.out.asCell 2 rfl HBK.out e07.out), (HSTX.out.asCell 2 rfl HBK.out e10.out), (HSTX.out.asCell 2 rfl HBK.out e11.out), (HSTX.out.asCell 2 rfl HBK.out e12.out), (HSTX.out.asCell 2 rfl HBK.out e13.out), (HSTX.out.asCell 2 rfl HBK.out e14.out), (HSTX.out.asCell 2 rfl HBK.out e15.out), (HSTX.out.asCell 2 rfl HBK.out e16.out), (HSTX.out.asCell 2 rfl HBK.out e17.out)⟩)

      refine wpAnyH_take (i := 0) (v := ?_) rfl (by kernel_rfl) (by kernel_rfl) (by kernel_rfl) (fun _ _ _ h => h) (Or.inl ⟨by rfl, ?_⟩) (by assumption) ?_
      rotate_left; focus (intro w hSw; (try dsimp only at hSw); go_simp; try (with_reducible rfl); done)
      try simp only [List.getElem_toArray, List.getElem_cons_zero, List.getElem_cons_succ, Act.put, List.setIfInBounds_toArray, List.set_cons_zero, List.set_cons_succ]
      refine wpAnyH_take (i := 1) (v := ?_) rfl (by kernel_rfl) (by kernel_rfl) (by kernel_rfl) (fun _ _ _ h => h) (Or.inl ⟨by rfl, ?_⟩) (by assumption) ?_
      rotate_left; focus (intro w hSw; (try dsimp only at hSw); go_simp; try (with_reducible rfl); done)
      try simp only [List.getElem_toArray, List.getElem_cons_zero, List.getElem_cons_succ, Act.put, List.setIfInBounds_toArray, List.set_cons_zero, List.set_cons_succ]
      refine wpAnyH_take (i := 2) (v := ?_) rfl (by kernel_rfl) (by kernel_rfl) (by kernel_rfl) (fun _ _ _ h => h) (Or.inl ⟨by rfl, ?_⟩) (by assumption) ?_
      rotate_left; focus (intro w hSw; (try dsimp only at hSw); go_simp; try (with_reducible rfl); done)
      try simp only [List.getElem_toArray, List.getElem_cons_zero, List.getElem_cons_succ, Act.put, List.setIfInBounds_toArray, List.set_cons_zero, List.set_cons_succ]
      refine wpAnyH_take (i := 3) (v := ?_) rfl (by kernel_rfl) (by kernel_rfl) (by kernel_rfl) (fun _ _ _ h => h) (Or.inl ⟨by rfl, ?_⟩) (by assumption) ?_
      rotate_left; focus (intro w hSw; (try dsimp only at hSw); go_simp; try (with_reducible rfl); done)
      try simp only [List.getElem_toArray, List.getElem_cons_zero, List.getElem_cons_succ, Act.put, List.setIfInBounds_toArray, List.set_cons_zero, List.set_cons_succ]
      refine wpAnyH_take (i := 4) (v := ?_) rfl (by kernel_rfl) (by kernel_rfl) (by kernel_rfl) (fun _ _ _ h => h) (Or.inl ⟨by rfl, ?_⟩) (by assumption) ?_
      rotate_left; focus (intro w hSw; (try dsimp only at hSw); go_simp; try (with_reducible rfl); done)
      try simp only [List.getElem_toArray, List.getElem_cons_zero, List.getElem_cons_succ, Act.put, List.setIfInBounds_toArray, List.set_cons_zero, List.set_cons_succ]
      refine wpAnyH_take (i := 5) (v := ?_) rfl (by kernel_rfl) (by kernel_rfl) (by kernel_rfl) (fun _ _ _ h => h) (Or.inl ⟨by rfl, ?_⟩) (by assumption) ?_
      rotate_left; focus (intro w hSw; (try dsimp only at hSw); go_simp; try (with_reducible rfl); done)
      try simp only [List.getElem_toArray, List.getElem_cons_zero, List.getElem_cons_succ, Act.put, List.setIfInBounds_toArray, List.set_cons_zero, List.set_cons_succ]
      refine wpAnyH_take (i := 6) (v := ?_) rfl (by kernel_rfl) (by kernel_rfl) (by kernel_rfl) (fun _ _ _ h => h) (Or.inl ⟨by rfl, ?_⟩) (by assumption) ?_
      rotate_left; focus (intro w hSw; (try dsimp only at hSw); go_simp; try (with_reducible rfl); done)
      try simp only [List.getElem_toArray, List.getElem_cons_zero, List.getElem_cons_succ, Act.put, List.setIfInBounds_toArray, List.set_cons_zero, List.set_cons_succ]
      refine wpAnyH_take (i := 8) (v := ?_) rfl (by kernel_rfl) (by kernel_rfl) (by kernel_rfl) (fun _ _ _ h => h) (Or.inl ⟨by rfl, ?_⟩) (by assumption) ?_
      rotate_left; focus (intro w hSw; (try dsimp only at hSw); go_simp; try (with_reducible rfl); done)
      try simp only [List.getElem_toArray, List.getElem_cons_zero, List.getElem_cons_succ, Act.put, List.setIfInBounds_toArray, List.set_cons_zero, List.set_cons_succ]
      refine wpAnyH_take (i := 9) (v := ?_) rfl (by kernel_rfl) (by kernel_rfl) (by kernel_rfl) (fun _ _ _ h => h) (Or.inl ⟨by rfl, ?_⟩) (by assumption) ?_
      rotate_left; focus (intro w hSw; (try dsimp only at hSw); go_simp; try (with_reducible rfl); done)
      try simp only [List.getElem_toArray, List.getElem_cons_zero, List.getElem_cons_succ, Act.put, List.setIfInBounds_toArray, List.set_cons_zero, List.set_cons_succ]
      refine wpAnyH_take (i := 10) (v := ?_) rfl (by kernel_rfl) (by kernel_rfl) (by kernel_rfl) (fun _ _ _ h => h) (Or.inl ⟨by rfl, ?_⟩) (by assumption) ?_
      rotate_left; focus (intro w hSw; (try dsimp only at hSw); go_simp; try (with_reducible rfl); done)
      try simp only [List.getElem_toArray, List.getElem_cons_zero, List.getElem_cons_succ, Act.put, List.setIfInBounds_toArray, List.set_cons_zero, List.set_cons_succ]
      refine wpAnyH_take (i := 11) (v := ?_) rfl (by kernel_rfl) (by kernel_rfl) (by kernel_rfl) (fun _ _ _ h => h) (Or.inl ⟨by rfl, ?_⟩) (by assumption) ?_
      rotate_left; focus (intro w hSw; (try dsimp only at hSw); go_simp; try (with_reducible rfl); done)
      try simp only [List.getElem_toArray, List.getElem_cons_zero, List.getElem_cons_succ, Act.put, List.setIfInBounds_toArray, List.set_cons_zero, List.set_cons_succ]
      refine wpAnyH_ready (rs := [7]) (by kernel_rfl) (by simp) ?_
      refine AllReadyH.cons rfl (fun K hK => ?_) AllReadyH.nil
      go_simp
      (go_at_call 25; refine (HA.out _ _ HST.out).mono ?_; rintro e w5 ⟨rfl, hst5⟩; have HST := Lib.hid hst5; clear hst5)
      refine hK.out _ _ ?_ (fun hHeld => ?_)
      · (try dsimp only); (first | exact ⟨((HST.out.nth 7 rfl).celAt (i := 7) rfl), (HST.out.asCell 2 rfl HBK.out e00.out), (HST.out.asCell 2 rfl HBK.out e01.out), (HST.out.asCell 2 rfl HBK.out e02.out), (HST.out.asCell 2 rfl HBK.out e03.out), (HST.out.asCell 2 rfl HBK.out e04.out), (HST.out.asCell 2 rfl HBK.out e05.out), (HST.out.asCell 2 rfl HBK.out e06.out), (HST.out.asCell 2 rfl HBK.out e07.out), (HST.out.asCell 2 rfl HBK.out e10.out), (HST.out.asCell 2 rfl HBK.out e11.out), (HST.out.asCell 2 rfl HBK.out e12.out), (HST.out.asCell 2 rfl HBK.out e13.out), (HST.out.asCell 2 rfl HBK.out e14.out), (HST.out.asCell 2 rfl HBK.out e15.out), (HST.out.asCell 2 rfl HBK.out e16.out), (HST.out.asCell 2 rfl HBK.out e17.out)⟩ | exact ⟨((HSTX.out.nth 7 rfl).celAt (i := 7) rfl), (HSTX.out.asCell 2 rfl HBK.out e00.out), (HSTX.out.asCell 2 rfl HBK.out e01.out), (HSTX.out.asCell 2 rfl HBK.out e02.out), (HSTX.out.asCell 2 rfl HBK.out e03.out), (HSTX.out.asCell 2 rfl HBK.out e04.out), (HSTX.out.asCell 2 rfl HBK.out e05.out), (HSTX.out.asCell 2 rfl HBK.out e06.out), (HSTX.out.asCell 2 rfl HBK.out e07.out), (HSTX.out.asCell 2 rfl HBK.out e10.out), (HSTX.out.asCell 2 rfl HBK.out e11.out), (HSTX.out.asCell 2 rfl HBK.out e12.out), (HSTX.out.asCell 2 rfl HBK.out e13.out), (HSTX.out.asCell 2 rfl HBK.out e14.out), (HSTX.out.asCell 2 rfl HBK.out e15.out), (HSTX.out.asCell 2 rfl HBK.out e16.out), (HSTX.out.asCell 2 rfl HBK.out e17.out)⟩)
      clear hK K
      try simp only [List.getElem_toArray, List.getElem_cons_zero, List.getElem_cons_succ, Act.put, List.setIfInBounds_toArray, List.set_cons_zero, List.set_cons_succ]
      refine wpAnyH_ready (rs := [12]) (by kernel_rfl) (by simp) ?_
      refine AllReadyH.cons rfl (fun K hK => ?_) AllReadyH.nil
      go_simp
      (go_at_call 60; refine (HB.out _ _ HST.out).mono ?_; rintro e w5 ⟨rfl, hst5⟩; have HST := Lib.hid hst5; clear hst5)
      refine hK.out _ _ ?_ (fun hHeld => ?_)
      · (try dsimp only); (first | exact ⟨((HST.out.nth 7 rfl).celAt (i := 7) rfl), (HST.out.asCell 2 rfl HBK.out e00.out), (HST.out.asCell 2 rfl HBK.out e01.out), (HST.out.asCell 2 rfl HBK.out e02.out), (HST.out.asCell 2 rfl HBK.out e03.out), (HST.out.asCell 2 rfl HBK.out e04.out), (HST.out.asCell 2 rfl HBK.out e05.out), (HST.out.asCell 2 rfl HBK.out e06.out), (HST.out.asCell 2 rfl HBK.out e07.out), (HST.out.asCell 2 rfl HBK.out e10.out), (HST.out.asCell 2 rfl HBK.out e11.out), (HST.out.asCell 2 rfl HBK.out e12.out), (HST.out.asCell 2 rfl HBK.out e13.out), (HST.out.asCell 2 rfl HBK.out e14.out), (HST.out.asCell 2 rfl HBK.out e15.out), (HST.out.asCell 2 rfl HBK.out e16.out), (HST.out.asCell 2 rfl HBK.out e17.out)⟩ | exact ⟨((HSTX.out.nth 7 rfl).celAt (i := 7) rfl), (HSTX.out.asCell 2 rfl HBK.out e00.out), (HSTX.out.asCell 2 rfl HBK.out e01.out), (HSTX.out.asCell 2 rfl HBK.out e02.out), (HSTX.out.asCell 2 rfl HBK.out e03.out), (HSTX.out.asCell 2 rfl HBK.out e04.out), (HSTX.out.asCell 2 rfl HBK.out e05.out), (HSTX.out.asCell 2 rfl HBK.out e06.out), (HSTX.out.asCell 2 rfl HBK.out e07.out), (HSTX.out.asCell 2 rfl HBK.out e10.out), (HSTX.out.asCell 2 rfl HBK.out e11.out), (HSTX.out.asCell 2 rfl HBK.out e12.out), (HSTX.out.asCell 2 rfl HBK.out e13.out), (HSTX.out.asCell 2 rfl HBK.out e14.out), (HSTX.out.asCell 2 rfl HBK.out e15.out), (HSTX.out.asCell 2 rfl HBK.out e16.out), (HSTX.out.asCell 2 rfl HBK.out e17.out)⟩)
      clear hK K
      try simp only [List.getElem_toArray, List.getElem_cons_zero, List.getElem_cons_succ, Act.put, List.setIfInBounds_toArray, List.set_cons_zero, List.set_cons_succ]
      refine wpAnyH_ready (rs := [13]) (by kernel_rfl) (by simp) ?_
      refine AllReadyH.cons rfl (fun K hK => ?_) AllReadyH.nil
      (refine St.stepRow rfl 24 (.tmp 10) (.tmp 93) rfl g10 #[.int .u64 u0, .int .u64 u1, .int .u64 u2, .int .u64 u3] rfl rfl (HST.out.pick [3, 0, 1, 2, 4, 5, 6, 7] 8 rfl rfl) Cs.clInfo rfl (by simp [Value.oneCell']) ?_; intro w9 hst9; have HSTX := Lib.hid (hst9.pick [1, 2, 3, 0, 4, 5, 6, 7] 8 rfl rfl); clear hst9)
      refine hK.out _ _ ?_ (fun hHeld => ?_)
      · (try dsimp only); (first | exact ⟨((HST.out.nth 7 rfl).celAt (i := 7) rfl), (HST.out.asCell 2 rfl HBK.out e00.out), (HST.out.asCell 2 rfl HBK.out e01.out), (HST.out.asCell 2 rfl HBK.out e02.out), (HST.out.asCell 2 rfl HBK.out e03.out), (HST.out.asCell 2 rfl HBK.out e04.out), (HST.out.asCell 2 rfl HBK.out e05.out), (HST.out.asCell 2 rfl HBK.out e06.out), (HST.out.asCell 2 rfl HBK.out e07.out), (HST.out.asCell 2 rfl HBK.out e10.out), (HST.out.asCell 2 rfl HBK.out e11.out), (HST.out.asCell 2 rfl HBK.out e12.out), (HST.out.asCell 2 rfl HBK.out e13.out), (HST.out.asCell 2 rfl HBK.out e14.out), (HST.out.asCell 2 rfl HBK.out e15.out), (HST.out.asCell 2 rfl HBK.out e16.out), (HST.out.asCell 2 rfl HBK.out e17.out)⟩ | exact ⟨((HSTX.out.nth 7 rfl).celAt (i := 7) rfl), (HSTX.out.asCell 2 rfl HBK.out e00.out), (HSTX.out.asCell 2 rfl HBK.out e01.out), (HSTX.out.asCell 2 rfl HBK.out e02.out), (HSTX.out.asCell 2 rfl HBK.out e03.out), (HSTX.out.asCell 2 rfl HBK.out e04.out), (HSTX.out.asCell 2 rfl HBK.out e05.out), (HSTX.out.asCell 2 rfl HBK.out e06.out), (HSTX.out.asCell 2 rfl HBK.out e07.out), (HSTX.out.asCell 2 rfl HBK.out e10.out), (HSTX.out.asCell 2 rfl HBK.out e11.out), (HSTX.out.asCell 2 rfl HBK.out e12.out), (HSTX.out.asCell 2 rfl HBK.out e13.out), (HSTX.out.asCell 2 rfl HBK.out e14.out), (HSTX.out.asCell 2 rfl HBK.out e15.out), (HSTX.out.asCell 2 rfl HBK.out e16.out), (HSTX.out.asCell 2 rfl HBK.out e17.out)⟩)
      clear hK K
      try simp only [List.getElem_toArray, List.getElem_cons_zero, List.getElem_cons_succ, Act.put, List.setIfInBounds_toArray, List.set_cons_zero, List.set_cons_succ]
      refine wpAnyH_done (by kernel_rfl) ?_ _
      have HST := HSTX
      clear HSTX
      go_wp2_with (fail)
      have x1 := (HST.out.nth 1 rfl).celAt (i := 1) rfl
      obtain ⟨z0, z1⟩ := HST.out.at2 5 rfl
      obtain ⟨y0, y1, y2, y3⟩ := Rm.cls4 HST.out 3 rfl
      refine wp_region_held_drew (S := (fun w' => w'.cell? ⟨gs, 1, none⟩ = some (.map (some gm)) ∧ w'.cell? ⟨W.heap.size + 1 + 1, 0, none⟩ = some (.int .i64 (q : Int)) ∧ w'.cell? ⟨W.heap.size + 1 + 1, 1, none⟩ = some (.int .i64 (i : Int)) ∧ w'.cell? ⟨g10, 0, none⟩ = some (.int .u64 u0) ∧ w'.cell? ⟨g10, 1, none⟩ = some (.int .u64 u1) ∧ w'.cell? ⟨g10, 2, none⟩ = some (.int .u64 u2) ∧ w'.cell? ⟨g10, 3, none⟩ = some (.int .u64 u3))) (by kernel_rfl) ?_ (fun hHeld => ?_)
      · (try dsimp only); (first | exact ⟨x1, z0, z1, y0, y1, y2, y3⟩ | exact ⟨x1b, z0b, z1b, y0b, y1b, y2b, y3b⟩)

      refine wpAnyH_take (i := 0) (v := ?_) rfl (by kernel_rfl) (by kernel_rfl) (by kernel_rfl) (fun _ _ _ h => h) (Or.inl ⟨by rfl, ?_⟩) (by assumption) ?_
      rotate_left; focus (intro w hSw; (try dsimp only at hSw); go_simp; try (with_reducible rfl); done)
      try simp only [List.getElem_toArray, List.getElem_cons_zero, List.getElem_cons_succ, Act.put, List.setIfInBounds_toArray, List.set_cons_zero, List.set_cons_succ]
      refine wpAnyH_take (i := 1) (v := ?_) rfl (by kernel_rfl) (by kernel_rfl) (by kernel_rfl) (fun _ _ _ h => h) (Or.inl ⟨by rfl, ?_⟩) (by assumption) ?_
      rotate_left; focus (intro w hSw; (try dsimp only at hSw); go_simp; try (with_reducible rfl); done)
      try simp only [List.getElem_toArray, List.getElem_cons_zero, List.getElem_cons_succ, Act.put, List.setIfInBounds_toArray, List.set_cons_zero, List.set_cons_succ]
      refine wpAnyH_take (i := 2) (v := ?_) rfl (by kernel_rfl) (by kernel_rfl) (by kernel_rfl) (fun _ _ _ h => h) (Or.inl ⟨by rfl, ?_⟩) (by assumption) ?_
      rotate_left; focus (intro w hSw; (try dsimp only at hSw); go_simp; try (with_reducible rfl); done)
      try simp only [List.getElem_toArray, List.getElem_cons_zero, List.getElem_cons_succ, Act.put, List.setIfInBounds_toArray, List.set_cons_zero, List.set_cons_succ]
      refine wpAnyH_take (i := 3) (v := ?_) rfl (by kernel_rfl) (by kernel_rfl) (by kernel_rfl) (fun _ _ _ h => h) (Or.inl ⟨by rfl, ?_⟩) (by assumption) ?_
      rotate_left; focus (intro w hSw; (try dsimp only at hSw); go_simp; try (with_reducible rfl); done)
      try simp only [List.getElem_toArray, List.getElem_cons_zero, List.getElem_cons_succ, Act.put, List.setIfInBounds_toArray, List.set_cons_zero, List.set_cons_succ]
      refine wpAnyH_take (i := 4) (v := ?_) rfl (by kernel_rfl) (by kernel_rfl) (by kernel_rfl) (fun _ _ _ h => h) (Or.inl ⟨by rfl, ?_⟩) (by assumption) ?_
      rotate_left; focus (intro w hSw; (try dsimp only at hSw); go_simp; try (with_reducible rfl); done)
      try simp only [List.getElem_toArray, List.getElem_cons_zero, List.getElem_cons_succ, Act.put, List.setIfInBounds_toArray, List.set_cons_zero, List.set_cons_succ]
      refine wpAnyH_take (i := 5) (v := ?_) rfl (by kernel_rfl) (by kernel_rfl) (by kernel_rfl) (fun _ _ _ h => h) (Or.inl ⟨by rfl, ?_⟩) (by assumption) ?_
      rotate_left; focus (intro w hSw; (try dsimp only at hSw); go_simp; try (with_reducible rfl); done)
      try simp only [List.getElem_toArray, List.getElem_cons_zero, List.getElem_cons_succ, Act.put, List.setIfInBounds_toArray, List.set_cons_zero, List.set_cons_succ]
      refine wpAnyH_ready (rs := [6]) (by kernel_rfl) (by simp) ?_
      refine AllReadyH.cons rfl (fun K hK => ?_) AllReadyH.nil
      (refine St.stepMemoPut2 rfl (.tmp 121) (.tmp 122) (.tmp 123) rfl Tryd.underlying57 HST.out.drew HEE.out rfl q i hqq hii rfl HKL.out u0 u1 u2 u3 (HEI.out.trans HU.out) rfl ?_; intro w9 hst9; have x1b := (hst9.nth 1 rfl).celAt (i := 1) rfl; obtain ⟨z0b, z1b⟩ := hst9.at2 5 rfl; obtain ⟨y0b, y1b, y2b, y3b⟩ := Rm.cls4 hst9 3 rfl; have HST := Lib.hid hst9; clear hst9)
      refine hK.out _ _ ?_ (fun hHeld => ?_)
      · (try dsimp only); (first | exact ⟨x1, z0, z1, y0, y1, y2, y3⟩ | exact ⟨x1b, z0b, z1b, y0b, y1b, y2b, y3b⟩)
      clear hK K
      try simp only [List.getElem_toArray, List.getElem_cons_zero, List.getElem_cons_succ, Act.put, List.setIfInBounds_toArray, List.set_cons_zero, List.set_cons_succ]
      refine wpAnyH_done (by kernel_rfl) ?_ _
      clear x1 z0 z1 y0 y1 y2 y3 x1b z0b z1b
      have HSTR2 := Lib.hid (HST.out.pick [6, 0, 1, 2] 8 rfl rfl)
      clear HST
      go_wp2_with (refine St.rowOp rfl 24 (.tmp 6) (.tmp 124) rfl (W.heap.size + 1) #[.int .u64 u0, .int .u64 u1, .int .u64 u2, .int .u64 u3] rfl rfl HSTR2.out Cs.clInfo rfl (by simp [Value.oneCell']) ?_; intro w9 hst9; have HST9 := Lib.hid hst9; clear hst9 HSTR2)
      refine bodyPost_ret (results_row rfl _ _ (W.heap.size + 1) 24 _ _ rfl (HST9.out.heapAt 0 rfl) Tryd.underlying24 rfl Cs.clInfo) rfl ?_
      exact ⟨by rw [HU.out]; rfl, HST9.out.drop⟩
    · clear HKN
      subst hkd
      obtain ⟨n0, n1, n2, n3, n4, n5, n6, n7⟩ := Nm.cel8 HST0.out 7 rfl
      have ws := (HST0.out.nth 1 rfl).celAt (i := 0) rfl
      obtain ⟨rfl, -, hbk⟩ := K3.out (by omega)
      have HBK := Lib.hid hbk
      clear hbk
      have hkN : 0 < kl.length := by omega
      have hkI : (0 : Int) < kl.length := by omega
      have hkN1 : 1 < kl.length := by omega
      have hkI1 : (1 : Int) < kl.length := by omega
      obtain ⟨b00, b01, b02, b03, ax0, lx0, cx0, ay0, ly0, cy0, -, e00, e01, e02, e03, e04, e05, e06, e07, hen0⟩ := K4.out 0 (by omega)
      obtain ⟨g01, g02, g03⟩ := HKC.out 0 (by omega)
      have HI0 := Lib.hid (IH.out (kl.getD 0 Rx.nil) (q + 1 + Nm.sumK f (kl.take 0)) #[.int .i64 (kl.getD 0 Rx.nil).kind, .int .u64 b00, .int .u64 b01, .int .u64 b02, .int .u64 b03, .slice ax0 lx0 cx0, .int .i64 ((q + 1 + Nm.sumK f (kl.take 0) : Nat) : Int), .slice ay0 ly0 cy0] hen0 g01 g02 g03)
      simp only [Nat.zero_mul, Nat.one_mul, Nat.add_zero] at e00 e01 e02 e03 e04 e05 e06 e07
      clear hen0 g01 g02 g03
      obtain ⟨b10, b11, b12, b13, ax1, lx1, cx1, ay1, ly1, cy1, -, e10, e11, e12, e13, e14, e15, e16, e17, hen1⟩ := K4.out 1 (by omega)
      obtain ⟨g11, g12, g13⟩ := HKC.out 1 (by omega)
      have HI1 := Lib.hid (IH.out (kl.getD 1 Rx.nil) (q + 1 + Nm.sumK f (kl.take 1)) #[.int .i64 (kl.getD 1 Rx.nil).kind, .int .u64 b10, .int .u64 b11, .int .u64 b12, .int .u64 b13, .slice ax1 lx1 cx1, .int .i64 ((q + 1 + Nm.sumK f (kl.take 1) : Nat) : Int), .slice ay1 ly1 cy1] hen1 g11 g12 g13)
      simp only [Nat.zero_mul, Nat.one_mul, Nat.add_zero] at e10 e11 e12 e13 e14 e15 e16 e17
      clear hen1 g11 g12 g13
      have hfin := HALT.out rfl
      clear hkl
      generalize (kl.getD 0 Rx.nil).kind = kk0 at *
      generalize q + 1 + Nm.sumK f (kl.take 0) = q0 at *
      generalize kl.getD 0 Rx.nil = kid0 at *
      generalize (kl.getD 1 Rx.nil).kind = kk1 at *
      generalize q + 1 + Nm.sumK f (kl.take 1) = q1 at *
      generalize kl.getD 1 Rx.nil = kid1 at *
      have e00 := Lib.hid e00
      have e01 := Lib.hid e01
      have e02 := Lib.hid e02
      have e03 := Lib.hid e03
      have e04 := Lib.hid e04
      have e05 := Lib.hid e05
      have e06 := Lib.hid e06
      have e07 := Lib.hid e07
      have e10 := Lib.hid e10
      have e11 := Lib.hid e11
      have e12 := Lib.hid e12
      have e13 := Lib.hid e13
      have e14 := Lib.hid e14
      have e15 := Lib.hid e15
      have e16 := Lib.hid e16
      have e17 := Lib.hid e17
      obtain ⟨r0, r1, r2, r3, hr⟩ := Cs.okFour (Rm.en_ok (n := s.size) (B := Rm.bt s) f kid0 i)
      obtain ⟨t0, t1, t2, t3, ht⟩ := Cs.okFour (Rm.en_ok (n := s.size) (B := Rm.bt s) f kid1 i)
      obtain ⟨u0, u1, u2, u3, hu⟩ := Cs.okFour (show Dm.Ok4 S by rw [← HEI.out]; exact HEE.out q i)
      have HU := Lib.hid hu
      have hrok : Dm.Ok4 [r0, r1, r2, r3] := hr ▸ Rm.en_ok _ _ _
      have htok : Dm.Ok4 [t0, t1, t2, t3] := ht ▸ Rm.en_ok _ _ _
      have HJ := Lib.hid (fun W => clJoin_any [r0, r1, r2, r3] [t0, t1, t2, t3] hrok htok W)
      rw [hr, ht, hu, Rm.join, ← Cs.or_eq hrok htok] at hfin
      rw [hfin, show Cs.clV [u0, u1, u2, u3] = .agg #[.int .u64 u0, .int .u64 u1, .int .u64 u2, .int .u64 u3] from rfl, show Cs.clV [r0, r1, r2, r3] = .agg #[.int .u64 r0, .int .u64 r1, .int .u64 r2, .int .u64 r3] from rfl, show Cs.clV [t0, t1, t2, t3] = .agg #[.int .u64 t0, .int .u64 t1, .int .u64 t2, .int .u64 t3] from rfl] at HJ
      have HA := Lib.hid (fun μ' W' h => (show Calls Tryd.prog 25 #[.pointer (some ⟨gs, 0, none⟩), .agg #[.int .i64 kk0, .int .u64 b00, .int .u64 b01, .int .u64 b02, .int .u64 b03, .slice ax0 lx0 cx0, .int .i64 (q0 : Int), .slice ay0 ly0 cy0], .int .i64 (i : Int)] W' (fun e w' => e = .returned (.agg #[.int .u64 r0, .int .u64 r1, .int .u64 r2, .int .u64 r3]) ∧ St w0 w' (Rm.base E gm gs s w1 fp μ')) by have h2 := HI0.out i μ' W' hi h; dsimp only at h2; rw [hr] at h2; exact h2))
      have HB := Lib.hid (fun μ' W' h => (show Calls Tryd.prog 25 #[.pointer (some ⟨gs, 0, none⟩), .agg #[.int .i64 kk1, .int .u64 b10, .int .u64 b11, .int .u64 b12, .int .u64 b13, .slice ax1 lx1 cx1, .int .i64 (q1 : Int), .slice ay1 ly1 cy1], .int .i64 (i : Int)] W' (fun e w' => e = .returned (.agg #[.int .u64 t0, .int .u64 t1, .int .u64 t2, .int .u64 t3]) ∧ St w0 w' (Rm.base E gm gs s w1 fp μ')) by have h2 := HI1.out i μ' W' hi h; dsimp only at h2; rw [ht] at h2; exact h2))
      clear hr ht hu hrok htok hfin HI0 HI1
      go_wp2_with (fail)
      generalize hW3 : W2.alloc (.cells #[.int .u64 0, .int .u64 0, .int .u64 0, .int .u64 0] 24) = W3 at *
      generalize W2.heap.size = g10 at *
      clear hW3
      have HST := Lib.hid HST0.out.drew
      clear n0 n1 n2 n3 n4 n5 n6 n7 ws HST0
      refine wp_region_held_drew (S := (fun w' => w'.cell? ⟨W.heap.size, 7, none⟩ = some (.slice (some ⟨bk, ok, none⟩) kl.length ck) ∧ w'.cell? ⟨bk, ok, none⟩ = some (.int .i64 kk0) ∧ w'.cell? ⟨bk, ok + 1, none⟩ = some (.int .u64 b00) ∧ w'.cell? ⟨bk, ok + 2, none⟩ = some (.int .u64 b01) ∧ w'.cell? ⟨bk, ok + 3, none⟩ = some (.int .u64 b02) ∧ w'.cell? ⟨bk, ok + 4, none⟩ = some (.int .u64 b03) ∧ w'.cell? ⟨bk, ok + 5, none⟩ = some (.slice ax0 lx0 cx0) ∧ w'.cell? ⟨bk, ok + 6, none⟩ = some (.int .i64 (q0 : Int)) ∧ w'.cell? ⟨bk, ok + 7, none⟩ = some (.slice ay0 ly0 cy0) ∧ w'.cell? ⟨bk, ok + 8, none⟩ = some (.int .i64 kk1) ∧ w'.cell? ⟨bk, ok + 8 + 1, none⟩ = some (.int .u64 b10) ∧ w'.cell? ⟨bk, ok + 8 + 2, none⟩ = some (.int .u64 b11) ∧ w'.cell? ⟨bk, ok + 8 + 3, none⟩ = some (.int .u64 b12) ∧ w'.cell? ⟨bk, ok + 8 + 4, none⟩ = some (.int .u64 b13) ∧ w'.cell? ⟨bk, ok + 8 + 5, none⟩ = some (.slice ax1 lx1 cx1) ∧ w'.cell? ⟨bk, ok + 8 + 6, none⟩ = some (.int .i64 (q1 : Int)) ∧ w'.cell? ⟨bk, ok + 8 + 7, none⟩ = some (.slice ay1 ly1 cy1))) (by kernel_rfl) ?_ (fun hHeld => ?_)
      · (try dsimp only); (first | exact ⟨((HST.out.nth 7 rfl).celAt (i := 7) rfl), (HST.out.asCell 2 rfl HBK.out e00.out), (HST.out.asCell 2 rfl HBK.out e01.out), (HST.out.asCell 2 rfl HBK.out e02.out), (HST.out.asCell 2 rfl HBK.out e03.out), (HST.out.asCell 2 rfl HBK.out e04.out), (HST.out.asCell 2 rfl HBK.out e05.out), (HST.out.asCell 2 rfl HBK.out e06.out), (HST.out.asCell 2 rfl HBK.out e07.out), (HST.out.asCell 2 rfl HBK.out e10.out), (HST.out.asCell 2 rfl HBK.out e11.out), (HST.out.asCell 2 rfl HBK.out e12.out), (HST.out.asCell 2 rfl HBK.out e13.out), (HST.out.asCell 2 rfl HBK.out e14.out), (HST.out.asCell 2 rfl HBK.out e15.out), (HST.out.asCell 2 rfl HBK.out e16.out), (HST.out.asCell 2 rfl HBK.out e17.out)⟩ | exact ⟨((HSTX.out.nth 7 rfl).celAt (i := 7) rfl), (HSTX.out.asCell 2 rfl HBK.out e00.out), (HSTX.out.asCell 2 rfl HBK.out e01.out), (HSTX.out.asCell 2 rfl HBK.out e02.out), (HSTX.out.asCell 2 rfl HBK.out e03.out), (HSTX.out.asCell 2 rfl HBK.out e04.out), (HSTX.out.asCell 2 rfl HBK.out e05.out), (HSTX.out.asCell 2 rfl HBK.out e06.out), (HSTX.out.asCell 2 rfl HBK.out e07.out), (HSTX.out.asCell 2 rfl HBK.out e10.out), (HSTX.out.asCell 2 rfl HBK.out e11.out), (HSTX.out.asCell 2 rfl HBK.out e12.out), (HSTX.out.asCell 2 rfl HBK.out e13.out), (HSTX.out.asCell 2 rfl HBK.out e14.out), (HSTX.out.asCell 2 rfl HBK.out e15.out), (HSTX.out.asCell 2 rfl HBK.out e16.out), (HSTX.out.asCell 2 rfl HBK.out e17.out)⟩)

      refine wpAnyH_take (i := 0) (v := ?_) rfl (by kernel_rfl) (by kernel_rfl) (by kernel_rfl) (fun _ _ _ h => h) (Or.inl ⟨by rfl, ?_⟩) (by assumption) ?_
      rotate_left; focus (intro w hSw; (try dsimp only at hSw); go_simp; try (with_reducible rfl); done)
      try simp only [List.getElem_toArray, List.getElem_cons_zero, List.getElem_cons_succ, Act.put, List.setIfInBounds_toArray, List.set_cons_zero, List.set_cons_succ]
      refine wpAnyH_take (i := 1) (v := ?_) rfl (by kernel_rfl) (by kernel_rfl) (by kernel_rfl) (fun _ _ _ h => h) (Or.inl ⟨by rfl, ?_⟩) (by assumption) ?_
      rotate_left; focus (intro w hSw; (try dsimp only at hSw); go_simp; try (with_reducible rfl); done)
      try simp only [List.getElem_toArray, List.getElem_cons_zero, List.getElem_cons_succ, Act.put, List.setIfInBounds_toArray, List.set_cons_zero, List.set_cons_succ]
      refine wpAnyH_take (i := 2) (v := ?_) rfl (by kernel_rfl) (by kernel_rfl) (by kernel_rfl) (fun _ _ _ h => h) (Or.inl ⟨by rfl, ?_⟩) (by assumption) ?_
      rotate_left; focus (intro w hSw; (try dsimp only at hSw); go_simp; try (with_reducible rfl); done)
      try simp only [List.getElem_toArray, List.getElem_cons_zero, List.getElem_cons_succ, Act.put, List.setIfInBounds_toArray, List.set_cons_zero, List.set_cons_succ]
      refine wpAnyH_take (i := 3) (v := ?_) rfl (by kernel_rfl) (by kernel_rfl) (by kernel_rfl) (fun _ _ _ h => h) (Or.inl ⟨by rfl, ?_⟩) (by assumption) ?_
      rotate_left; focus (intro w hSw; (try dsimp only at hSw); go_simp; try (with_reducible rfl); done)
      try simp only [List.getElem_toArray, List.getElem_cons_zero, List.getElem_cons_succ, Act.put, List.setIfInBounds_toArray, List.set_cons_zero, List.set_cons_succ]
      refine wpAnyH_take (i := 4) (v := ?_) rfl (by kernel_rfl) (by kernel_rfl) (by kernel_rfl) (fun _ _ _ h => h) (Or.inl ⟨by rfl, ?_⟩) (by assumption) ?_
      rotate_left; focus (intro w hSw; (try dsimp only at hSw); go_simp; try (with_reducible rfl); done)
      try simp only [List.getElem_toArray, List.getElem_cons_zero, List.getElem_cons_succ, Act.put, List.setIfInBounds_toArray, List.set_cons_zero, List.set_cons_succ]
      refine wpAnyH_take (i := 5) (v := ?_) rfl (by kernel_rfl) (by kernel_rfl) (by kernel_rfl) (fun _ _ _ h => h) (Or.inl ⟨by rfl, ?_⟩) (by assumption) ?_
      rotate_left; focus (intro w hSw; (try dsimp only at hSw); go_simp; try (with_reducible rfl); done)
      try simp only [List.getElem_toArray, List.getElem_cons_zero, List.getElem_cons_succ, Act.put, List.setIfInBounds_toArray, List.set_cons_zero, List.set_cons_succ]
      refine wpAnyH_take (i := 7) (v := ?_) rfl (by kernel_rfl) (by kernel_rfl) (by kernel_rfl) (fun _ _ _ h => h) (Or.inl ⟨by rfl, ?_⟩) (by assumption) ?_
      rotate_left; focus (intro w hSw; (try dsimp only at hSw); go_simp; try (with_reducible rfl); done)
      try simp only [List.getElem_toArray, List.getElem_cons_zero, List.getElem_cons_succ, Act.put, List.setIfInBounds_toArray, List.set_cons_zero, List.set_cons_succ]
      refine wpAnyH_take (i := 8) (v := ?_) rfl (by kernel_rfl) (by kernel_rfl) (by kernel_rfl) (fun _ _ _ h => h) (Or.inl ⟨by rfl, ?_⟩) (by assumption) ?_
      rotate_left; focus (intro w hSw; (try dsimp only at hSw); go_simp; try (with_reducible rfl); done)
      try simp only [List.getElem_toArray, List.getElem_cons_zero, List.getElem_cons_succ, Act.put, List.setIfInBounds_toArray, List.set_cons_zero, List.set_cons_succ]
      refine wpAnyH_take (i := 9) (v := ?_) rfl (by kernel_rfl) (by kernel_rfl) (by kernel_rfl) (fun _ _ _ h => h) (Or.inl ⟨by rfl, ?_⟩) (by assumption) ?_
      rotate_left; focus (intro w hSw; (try dsimp only at hSw); go_simp; try (with_reducible rfl); done)
      try simp only [List.getElem_toArray, List.getElem_cons_zero, List.getElem_cons_succ, Act.put, List.setIfInBounds_toArray, List.set_cons_zero, List.set_cons_succ]
      refine wpAnyH_take (i := 10) (v := ?_) rfl (by kernel_rfl) (by kernel_rfl) (by kernel_rfl) (fun _ _ _ h => h) (Or.inl ⟨by rfl, ?_⟩) (by assumption) ?_
      rotate_left; focus (intro w hSw; (try dsimp only at hSw); go_simp; try (with_reducible rfl); done)
      try simp only [List.getElem_toArray, List.getElem_cons_zero, List.getElem_cons_succ, Act.put, List.setIfInBounds_toArray, List.set_cons_zero, List.set_cons_succ]
      refine wpAnyH_take (i := 11) (v := ?_) rfl (by kernel_rfl) (by kernel_rfl) (by kernel_rfl) (fun _ _ _ h => h) (Or.inl ⟨by rfl, ?_⟩) (by assumption) ?_
      rotate_left; focus (intro w hSw; (try dsimp only at hSw); go_simp; try (with_reducible rfl); done)
      try simp only [List.getElem_toArray, List.getElem_cons_zero, List.getElem_cons_succ, Act.put, List.setIfInBounds_toArray, List.set_cons_zero, List.set_cons_succ]
      refine wpAnyH_take (i := 12) (v := ?_) rfl (by kernel_rfl) (by kernel_rfl) (by kernel_rfl) (fun _ _ _ h => h) (Or.inl ⟨by rfl, ?_⟩) (by assumption) ?_
      rotate_left; focus (intro w hSw; (try dsimp only at hSw); go_simp; try (with_reducible rfl); done)
      try simp only [List.getElem_toArray, List.getElem_cons_zero, List.getElem_cons_succ, Act.put, List.setIfInBounds_toArray, List.set_cons_zero, List.set_cons_succ]
      refine wpAnyH_ready (rs := [6]) (by kernel_rfl) (by simp) ?_
      refine AllReadyH.cons rfl (fun K hK => ?_) AllReadyH.nil
      go_simp
      (go_at_call 25; refine (HA.out _ _ HST.out).mono ?_; rintro e w5 ⟨rfl, hst5⟩; have HST := Lib.hid hst5; clear hst5)
      refine hK.out _ _ ?_ (fun hHeld => ?_)
      · (try dsimp only); (first | exact ⟨((HST.out.nth 7 rfl).celAt (i := 7) rfl), (HST.out.asCell 2 rfl HBK.out e00.out), (HST.out.asCell 2 rfl HBK.out e01.out), (HST.out.asCell 2 rfl HBK.out e02.out), (HST.out.asCell 2 rfl HBK.out e03.out), (HST.out.asCell 2 rfl HBK.out e04.out), (HST.out.asCell 2 rfl HBK.out e05.out), (HST.out.asCell 2 rfl HBK.out e06.out), (HST.out.asCell 2 rfl HBK.out e07.out), (HST.out.asCell 2 rfl HBK.out e10.out), (HST.out.asCell 2 rfl HBK.out e11.out), (HST.out.asCell 2 rfl HBK.out e12.out), (HST.out.asCell 2 rfl HBK.out e13.out), (HST.out.asCell 2 rfl HBK.out e14.out), (HST.out.asCell 2 rfl HBK.out e15.out), (HST.out.asCell 2 rfl HBK.out e16.out), (HST.out.asCell 2 rfl HBK.out e17.out)⟩ | exact ⟨((HSTX.out.nth 7 rfl).celAt (i := 7) rfl), (HSTX.out.asCell 2 rfl HBK.out e00.out), (HSTX.out.asCell 2 rfl HBK.out e01.out), (HSTX.out.asCell 2 rfl HBK.out e02.out), (HSTX.out.asCell 2 rfl HBK.out e03.out), (HSTX.out.asCell 2 rfl HBK.out e04.out), (HSTX.out.asCell 2 rfl HBK.out e05.out), (HSTX.out.asCell 2 rfl HBK.out e06.out), (HSTX.out.asCell 2 rfl HBK.out e07.out), (HSTX.out.asCell 2 rfl HBK.out e10.out), (HSTX.out.asCell 2 rfl HBK.out e11.out), (HSTX.out.asCell 2 rfl HBK.out e12.out), (HSTX.out.asCell 2 rfl HBK.out e13.out), (HSTX.out.asCell 2 rfl HBK.out e14.out), (HSTX.out.asCell 2 rfl HBK.out e15.out), (HSTX.out.asCell 2 rfl HBK.out e16.out), (HSTX.out.asCell 2 rfl HBK.out e17.out)⟩)
      clear hK K
      try simp only [List.getElem_toArray, List.getElem_cons_zero, List.getElem_cons_succ, Act.put, List.setIfInBounds_toArray, List.set_cons_zero, List.set_cons_succ]
      refine wpAnyH_ready (rs := [13]) (by kernel_rfl) (by simp) ?_
      refine AllReadyH.cons rfl (fun K hK => ?_) AllReadyH.nil
      go_simp
      (go_at_call 25; refine (HB.out _ _ HST.out).mono ?_; rintro e w5 ⟨rfl, hst5⟩; have HST := Lib.hid hst5; clear hst5)
      refine hK.out _ _ ?_ (fun hHeld => ?_)
      · (try dsimp only); (first | exact ⟨((HST.out.nth 7 rfl).celAt (i := 7) rfl), (HST.out.asCell 2 rfl HBK.out e00.out), (HST.out.asCell 2 rfl HBK.out e01.out), (HST.out.asCell 2 rfl HBK.out e02.out), (HST.out.asCell 2 rfl HBK.out e03.out), (HST.out.asCell 2 rfl HBK.out e04.out), (HST.out.asCell 2 rfl HBK.out e05.out), (HST.out.asCell 2 rfl HBK.out e06.out), (HST.out.asCell 2 rfl HBK.out e07.out), (HST.out.asCell 2 rfl HBK.out e10.out), (HST.out.asCell 2 rfl HBK.out e11.out), (HST.out.asCell 2 rfl HBK.out e12.out), (HST.out.asCell 2 rfl HBK.out e13.out), (HST.out.asCell 2 rfl HBK.out e14.out), (HST.out.asCell 2 rfl HBK.out e15.out), (HST.out.asCell 2 rfl HBK.out e16.out), (HST.out.asCell 2 rfl HBK.out e17.out)⟩ | exact ⟨((HSTX.out.nth 7 rfl).celAt (i := 7) rfl), (HSTX.out.asCell 2 rfl HBK.out e00.out), (HSTX.out.asCell 2 rfl HBK.out e01.out), (HSTX.out.asCell 2 rfl HBK.out e02.out), (HSTX.out.asCell 2 rfl HBK.out e03.out), (HSTX.out.asCell 2 rfl HBK.out e04.out), (HSTX.out.asCell 2 rfl HBK.out e05.out), (HSTX.out.asCell 2 rfl HBK.out e06.out), (HSTX.out.asCell 2 rfl HBK.out e07.out), (HSTX.out.asCell 2 rfl HBK.out e10.out), (HSTX.out.asCell 2 rfl HBK.out e11.out), (HSTX.out.asCell 2 rfl HBK.out e12.out), (HSTX.out.asCell 2 rfl HBK.out e13.out), (HSTX.out.asCell 2 rfl HBK.out e14.out), (HSTX.out.asCell 2 rfl HBK.out e15.out), (HSTX.out.asCell 2 rfl HBK.out e16.out), (HSTX.out.asCell 2 rfl HBK.out e17.out)⟩)
      clear hK K
      try simp only [List.getElem_toArray, List.getElem_cons_zero, List.getElem_cons_succ, Act.put, List.setIfInBounds_toArray, List.set_cons_zero, List.set_cons_succ]
      refine wpAnyH_ready (rs := [14]) (by kernel_rfl) (by simp) ?_
      refine AllReadyH.cons rfl (fun K hK => ?_) AllReadyH.nil
      go_simp
      (go_at_call 59; refine (HJ.out _).mono ?_; rintro e w6 ⟨rfl, hb6⟩; have HST := Lib.hid (HST.out.call hb6); clear hb6)
      refine hK.out _ _ ?_ (fun hHeld => ?_)
      · (try dsimp only); (first | exact ⟨((HST.out.nth 7 rfl).celAt (i := 7) rfl), (HST.out.asCell 2 rfl HBK.out e00.out), (HST.out.asCell 2 rfl HBK.out e01.out), (HST.out.asCell 2 rfl HBK.out e02.out), (HST.out.asCell 2 rfl HBK.out e03.out), (HST.out.asCell 2 rfl HBK.out e04.out), (HST.out.asCell 2 rfl HBK.out e05.out), (HST.out.asCell 2 rfl HBK.out e06.out), (HST.out.asCell 2 rfl HBK.out e07.out), (HST.out.asCell 2 rfl HBK.out e10.out), (HST.out.asCell 2 rfl HBK.out e11.out), (HST.out.asCell 2 rfl HBK.out e12.out), (HST.out.asCell 2 rfl HBK.out e13.out), (HST.out.asCell 2 rfl HBK.out e14.out), (HST.out.asCell 2 rfl HBK.out e15.out), (HST.out.asCell 2 rfl HBK.out e16.out), (HST.out.asCell 2 rfl HBK.out e17.out)⟩ | exact ⟨((HSTX.out.nth 7 rfl).celAt (i := 7) rfl), (HSTX.out.asCell 2 rfl HBK.out e00.out), (HSTX.out.asCell 2 rfl HBK.out e01.out), (HSTX.out.asCell 2 rfl HBK.out e02.out), (HSTX.out.asCell 2 rfl HBK.out e03.out), (HSTX.out.asCell 2 rfl HBK.out e04.out), (HSTX.out.asCell 2 rfl HBK.out e05.out), (HSTX.out.asCell 2 rfl HBK.out e06.out), (HSTX.out.asCell 2 rfl HBK.out e07.out), (HSTX.out.asCell 2 rfl HBK.out e10.out), (HSTX.out.asCell 2 rfl HBK.out e11.out), (HSTX.out.asCell 2 rfl HBK.out e12.out), (HSTX.out.asCell 2 rfl HBK.out e13.out), (HSTX.out.asCell 2 rfl HBK.out e14.out), (HSTX.out.asCell 2 rfl HBK.out e15.out), (HSTX.out.asCell 2 rfl HBK.out e16.out), (HSTX.out.asCell 2 rfl HBK.out e17.out)⟩)
      clear hK K
      try simp only [List.getElem_toArray, List.getElem_cons_zero, List.getElem_cons_succ, Act.put, List.setIfInBounds_toArray, List.set_cons_zero, List.set_cons_succ]
      refine wpAnyH_ready (rs := [15]) (by kernel_rfl) (by simp) ?_
      refine AllReadyH.cons rfl (fun K hK => ?_) AllReadyH.nil
      (refine St.stepRow rfl 24 (.tmp 10) (.tmp 78) rfl g10 #[.int .u64 u0, .int .u64 u1, .int .u64 u2, .int .u64 u3] rfl rfl (HST.out.pick [3, 0, 1, 2, 4, 5, 6, 7] 8 rfl rfl) Cs.clInfo rfl (by simp [Value.oneCell']) ?_; intro w9 hst9; have HSTX := Lib.hid (hst9.pick [1, 2, 3, 0, 4, 5, 6, 7] 8 rfl rfl); clear hst9)
      refine hK.out _ _ ?_ (fun hHeld => ?_)
      · (try dsimp only); (first | exact ⟨((HST.out.nth 7 rfl).celAt (i := 7) rfl), (HST.out.asCell 2 rfl HBK.out e00.out), (HST.out.asCell 2 rfl HBK.out e01.out), (HST.out.asCell 2 rfl HBK.out e02.out), (HST.out.asCell 2 rfl HBK.out e03.out), (HST.out.asCell 2 rfl HBK.out e04.out), (HST.out.asCell 2 rfl HBK.out e05.out), (HST.out.asCell 2 rfl HBK.out e06.out), (HST.out.asCell 2 rfl HBK.out e07.out), (HST.out.asCell 2 rfl HBK.out e10.out), (HST.out.asCell 2 rfl HBK.out e11.out), (HST.out.asCell 2 rfl HBK.out e12.out), (HST.out.asCell 2 rfl HBK.out e13.out), (HST.out.asCell 2 rfl HBK.out e14.out), (HST.out.asCell 2 rfl HBK.out e15.out), (HST.out.asCell 2 rfl HBK.out e16.out), (HST.out.asCell 2 rfl HBK.out e17.out)⟩ | exact ⟨((HSTX.out.nth 7 rfl).celAt (i := 7) rfl), (HSTX.out.asCell 2 rfl HBK.out e00.out), (HSTX.out.asCell 2 rfl HBK.out e01.out), (HSTX.out.asCell 2 rfl HBK.out e02.out), (HSTX.out.asCell 2 rfl HBK.out e03.out), (HSTX.out.asCell 2 rfl HBK.out e04.out), (HSTX.out.asCell 2 rfl HBK.out e05.out), (HSTX.out.asCell 2 rfl HBK.out e06.out), (HSTX.out.asCell 2 rfl HBK.out e07.out), (HSTX.out.asCell 2 rfl HBK.out e10.out), (HSTX.out.asCell 2 rfl HBK.out e11.out), (HSTX.out.asCell 2 rfl HBK.out e12.out), (HSTX.out.asCell 2 rfl HBK.out e13.out), (HSTX.out.asCell 2 rfl HBK.out e14.out), (HSTX.out.asCell 2 rfl HBK.out e15.out), (HSTX.out.asCell 2 rfl HBK.out e16.out), (HSTX.out.asCell 2 rfl HBK.out e17.out)⟩)
      clear hK K
      try simp only [List.getElem_toArray, List.getElem_cons_zero, List.getElem_cons_succ, Act.put, List.setIfInBounds_toArray, List.set_cons_zero, List.set_cons_succ]
      refine wpAnyH_done (by kernel_rfl) ?_ _
      have HST := HSTX
      clear HSTX
      go_wp2_with (fail)
      have x1 := (HST.out.nth 1 rfl).celAt (i := 1) rfl
      obtain ⟨z0, z1⟩ := HST.out.at2 5 rfl
      obtain ⟨y0, y1, y2, y3⟩ := Rm.cls4 HST.out 3 rfl
      refine wp_region_held_drew (S := (fun w' => w'.cell? ⟨gs, 1, none⟩ = some (.map (some gm)) ∧ w'.cell? ⟨W.heap.size + 1 + 1, 0, none⟩ = some (.int .i64 (q : Int)) ∧ w'.cell? ⟨W.heap.size + 1 + 1, 1, none⟩ = some (.int .i64 (i : Int)) ∧ w'.cell? ⟨g10, 0, none⟩ = some (.int .u64 u0) ∧ w'.cell? ⟨g10, 1, none⟩ = some (.int .u64 u1) ∧ w'.cell? ⟨g10, 2, none⟩ = some (.int .u64 u2) ∧ w'.cell? ⟨g10, 3, none⟩ = some (.int .u64 u3))) (by kernel_rfl) ?_ (fun hHeld => ?_)
      · (try dsimp only); (first | exact ⟨x1, z0, z1, y0, y1, y2, y3⟩ | exact ⟨x1b, z0b, z1b, y0b, y1b, y2b, y3b⟩)

      refine wpAnyH_take (i := 0) (v := ?_) rfl (by kernel_rfl) (by kernel_rfl) (by kernel_rfl) (fun _ _ _ h => h) (Or.inl ⟨by rfl, ?_⟩) (by assumption) ?_
      rotate_left; focus (intro w hSw; (try dsimp only at hSw); go_simp; try (with_reducible rfl); done)
      try simp only [List.getElem_toArray, List.getElem_cons_zero, List.getElem_cons_succ, Act.put, List.setIfInBounds_toArray, List.set_cons_zero, List.set_cons_succ]
      refine wpAnyH_take (i := 1) (v := ?_) rfl (by kernel_rfl) (by kernel_rfl) (by kernel_rfl) (fun _ _ _ h => h) (Or.inl ⟨by rfl, ?_⟩) (by assumption) ?_
      rotate_left; focus (intro w hSw; (try dsimp only at hSw); go_simp; try (with_reducible rfl); done)
      try simp only [List.getElem_toArray, List.getElem_cons_zero, List.getElem_cons_succ, Act.put, List.setIfInBounds_toArray, List.set_cons_zero, List.set_cons_succ]
      refine wpAnyH_take (i := 2) (v := ?_) rfl (by kernel_rfl) (by kernel_rfl) (by kernel_rfl) (fun _ _ _ h => h) (Or.inl ⟨by rfl, ?_⟩) (by assumption) ?_
      rotate_left; focus (intro w hSw; (try dsimp only at hSw); go_simp; try (with_reducible rfl); done)
      try simp only [List.getElem_toArray, List.getElem_cons_zero, List.getElem_cons_succ, Act.put, List.setIfInBounds_toArray, List.set_cons_zero, List.set_cons_succ]
      refine wpAnyH_take (i := 3) (v := ?_) rfl (by kernel_rfl) (by kernel_rfl) (by kernel_rfl) (fun _ _ _ h => h) (Or.inl ⟨by rfl, ?_⟩) (by assumption) ?_
      rotate_left; focus (intro w hSw; (try dsimp only at hSw); go_simp; try (with_reducible rfl); done)
      try simp only [List.getElem_toArray, List.getElem_cons_zero, List.getElem_cons_succ, Act.put, List.setIfInBounds_toArray, List.set_cons_zero, List.set_cons_succ]
      refine wpAnyH_take (i := 4) (v := ?_) rfl (by kernel_rfl) (by kernel_rfl) (by kernel_rfl) (fun _ _ _ h => h) (Or.inl ⟨by rfl, ?_⟩) (by assumption) ?_
      rotate_left; focus (intro w hSw; (try dsimp only at hSw); go_simp; try (with_reducible rfl); done)
      try simp only [List.getElem_toArray, List.getElem_cons_zero, List.getElem_cons_succ, Act.put, List.setIfInBounds_toArray, List.set_cons_zero, List.set_cons_succ]
      refine wpAnyH_take (i := 5) (v := ?_) rfl (by kernel_rfl) (by kernel_rfl) (by kernel_rfl) (fun _ _ _ h => h) (Or.inl ⟨by rfl, ?_⟩) (by assumption) ?_
      rotate_left; focus (intro w hSw; (try dsimp only at hSw); go_simp; try (with_reducible rfl); done)
      try simp only [List.getElem_toArray, List.getElem_cons_zero, List.getElem_cons_succ, Act.put, List.setIfInBounds_toArray, List.set_cons_zero, List.set_cons_succ]
      refine wpAnyH_ready (rs := [6]) (by kernel_rfl) (by simp) ?_
      refine AllReadyH.cons rfl (fun K hK => ?_) AllReadyH.nil
      (refine St.stepMemoPut2 rfl (.tmp 121) (.tmp 122) (.tmp 123) rfl Tryd.underlying57 HST.out.drew HEE.out rfl q i hqq hii rfl HKL.out u0 u1 u2 u3 (HEI.out.trans HU.out) rfl ?_; intro w9 hst9; have x1b := (hst9.nth 1 rfl).celAt (i := 1) rfl; obtain ⟨z0b, z1b⟩ := hst9.at2 5 rfl; obtain ⟨y0b, y1b, y2b, y3b⟩ := Rm.cls4 hst9 3 rfl; have HST := Lib.hid hst9; clear hst9)
      refine hK.out _ _ ?_ (fun hHeld => ?_)
      · (try dsimp only); (first | exact ⟨x1, z0, z1, y0, y1, y2, y3⟩ | exact ⟨x1b, z0b, z1b, y0b, y1b, y2b, y3b⟩)
      clear hK K
      try simp only [List.getElem_toArray, List.getElem_cons_zero, List.getElem_cons_succ, Act.put, List.setIfInBounds_toArray, List.set_cons_zero, List.set_cons_succ]
      refine wpAnyH_done (by kernel_rfl) ?_ _
      clear x1 z0 z1 y0 y1 y2 y3 x1b z0b z1b
      have HSTR2 := Lib.hid (HST.out.pick [6, 0, 1, 2] 8 rfl rfl)
      clear HST
      go_wp2_with (refine St.rowOp rfl 24 (.tmp 6) (.tmp 124) rfl (W.heap.size + 1) #[.int .u64 u0, .int .u64 u1, .int .u64 u2, .int .u64 u3] rfl rfl HSTR2.out Cs.clInfo rfl (by simp [Value.oneCell']) ?_; intro w9 hst9; have HST9 := Lib.hid hst9; clear hst9 HSTR2)
      refine bodyPost_ret (results_row rfl _ _ (W.heap.size + 1) 24 _ _ rfl (HST9.out.heapAt 0 rfl) Tryd.underlying24 rfl Cs.clInfo) rfl ?_
      exact ⟨by rw [HU.out]; rfl, HST9.out.drop⟩
  · have HU := Lib.hid (show S = [v0, v1, v2, v3] from HV.out)
    obtain ⟨y0, y1, y2, y3⟩ := Rm.cls4 hst 0 rfl
    have HST := Lib.hid (hst.pick [5, 1, 2, 3] 7 rfl rfl)
    clear hst HV
    go_wp2_with (refine St.rowOp rfl 24 (.tmp 6) (.tmp 27) rfl (W.heap.size + 1) #[.int .u64 v0, .int .u64 v1, .int .u64 v2, .int .u64 v3] rfl rfl HST.out Cs.clInfo rfl (by simp [Value.oneCell']) ?_; intro w9 hst9; have HST9 := Lib.hid hst9; clear hst9 HST)
    refine bodyPost_ret (results_row rfl _ _ (W.heap.size + 1) 24 _ _ rfl (HST9.out.heapAt 0 rfl) Tryd.underlying24 rfl Cs.clInfo) rfl ?_
    exact ⟨by rw [HU.out]; rfl, HST9.out.drop⟩
end Go.Proofs.YtfelikfppjlcmaaDoor
