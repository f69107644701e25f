/-
  FeedEnd of the reference: what it computes.
-/
import Derived.Test.YtkgpipokfoadiaaFeedEnd
import Derived.Test.YtkgpipokfoadiaaTokSet
import Derived.Test.YtkgpipokfoadiaaLexLex2
import Derived.Deep.RegionHeld3
import Derived.Deep.RegionLaw
namespace Go.Proofs.Ytkgpipokfoadiaa
set_option linter.unusedVariables false
open Go.ChangeShapes Go.WideShapes Go.ChangeAt Go.RowKit

theorem rangeOfRow {w : World} {g : Nat} {cs : Array Value} {T : TypeId} {fr : Nat × Nat} (h : w.heap[g]? = some (.cells cs T fr)) : w.rangeAt g 0 cs.toList := by
  intro j v hv
  simp only [World.cell?, h, Nat.zero_add]
  simpa using hv
theorem Lx.toks_ln {of next tags} (n : Nat) (l : List UInt8) (k : Int) (out) : (Lx.toks of next tags n l k out).1.length ≤ out.length + l.length := by
  induction n generalizing l k out with
  | zero => simp only [toks]; omega
  | succ n ih =>
    by_cases h : l = []
    · subst h; rw [toks_end]; simp
    · by_cases h1 : (longest of next tags l).2 = 0
      · rw [toks_bad h h1]; simp
      · rw [toks_step h h1]
        have h2 := longest_in of next tags l
        have h3 := ih (l.drop (longest of next tags l).2.toNat) (k + (longest of next tags l).2) (out ++ [((longest of next tags l).1, k, k + (longest of next tags l).2)])
        rw [List.length_drop, List.length_append, List.length_singleton] at h3
        have h4 : 0 < l.length := by cases l <;> simp_all
        omega
/-- A whole array or struct read, at a step of a region that draws its order. -/
theorem step_load_row {P : Program} {ops : Array Oper} {o : Oper} {a : Act} {w : World} {K : Act → World → Prop} {Q : Exit → Act → World → Prop} {EE : Prop} (hgd : o.guard = none) (ty : TypeId) (x : Operand) (ho : o.op = .load ty x)
    (g : Nat) (hx : a.eval x = .pointer (some ⟨g, 0, none⟩)) (t : TypeId) (cs : Array Value) (fr : Nat × Nat) (d : TypeDesc) (hg : w.heap[g]? = some (.cells cs t fr))
    (hu : P.underlying ty = some d) (hd : (match d with | .struct _ | .array _ _ => true | _ => false) = true) (hi : (P.info? ty).map (·.size) = some cs.size)
    (h : K (a.put o.dst (.agg cs)) w) : if Region.wanted o (yielded ops a.tmps) = true then Oper.wp P o a w K Q else EE := by
  rw [if_pos (by simp [Region.wanted, hgd])]
  exact wp_load_row ty x ho g hx t cs fr d hg hu hd hi h

set_option maxRecDepth 100000 in
set_option maxHeartbeats 8000000 in
theorem rend_ok (A : Array Value) (of : List Int) (next : List (List Int)) (tags : List Int) (vn vt : Value) (at_ : Int) (buf : ByteArray) (w : World) (hp : PackedAt w A of next tags vn vt) (he : Fd.err of next tags at_ buf.size 0 = 0) :
    Calls Try.prog 58 #[.agg A, .agg #[.int .i64 at_, .string buf, .int .i64 0]] w (Fd.RetFed (Fd.endR (Lx.toks of next tags buf.size buf.data.toList at_ []) (at_ + buf.size)) w) := by
  have hsz : (Try.prog.info? 55).map (·.size) = some A.size := by rw [hp.size]; kernel_rfl
  have HS := Lib.hid hsz; clear hsz
  obtain ⟨h200, hg, ha0, ha1, hb64, _⟩ := Fd.err_zero he
  obtain ⟨at1, n1, c1, rfl⟩ : ∃ a n c, vt = .slice a n c := by obtain ⟨ao, _, _, cap, h1, _⟩ := hp.tagss; exact ⟨_, _, _, h1⟩
  have hst := (((St.init w).alloc A 55).alloc #[.int .i64 at_, .string buf, .int .i64 0] 105).alloc #[.int .i64 0, .string ⟨#[]⟩, .int .i64 0] 105
  simp only [World.size_alloc] at hst
  have HP := Lib.hid hp; clear hp
  have HW := Lib.hid (fun w' h => wide_ok A of next tags vn (.slice at1 n1 c1) w' h h200 hg)
  have HT := Lib.hid (fun v w' h => tokens_any v of next tags buf (by omega) w' h hg h200)
  have HDF : Hid (∀ (v0 : Value) (w' : World) B, Own w' B 137 256 v0 ((Wd.rows of next next.length).map Wd.rowV) → Below w.heap.size w w' → DfaAt w' (.agg #[v0, .slice at1 n1 c1]) (Wd.rows of next next.length) tags) :=
    Lib.hid (fun v0 w' B ho hb => ⟨v0, _, rfl, Wd.sl ho (Wd.rows_wf of next tags hg h200 (fun c hc => (HP.out.of_wf c hc).1)), HP.out.tagss.call hb (fun _ _ h => h)⟩)
  have hshf := Lx.toks_shf (of := of) (next := next) (tags := tags) at_ buf.size buf.data.toList 0 (by omega) []
  rw [Int.zero_add, List.map_nil] at hshf
  have hbd := Lx.toks_bd (of := of) (next := next) (tags := tags) buf.size buf.data.toList 0 (by omega) [] (by simp)
  have hln := Lx.toks_ln (of := of) (next := next) (tags := tags) buf.size buf.data.toList 0 []
  have hin := Lx.toks_in (of := of) (next := next) (tags := tags) buf.size buf.data.toList 0 (by omega) []
  rw [hshf]
  generalize hX : Lx.toks of next tags buf.size buf.data.toList 0 [] = X at *
  obtain ⟨L, X2⟩ := X
  simp only [Array.length_toList, ByteArray.size_data, List.length_nil, Nat.zero_add, Int.zero_add] at hbd hln hin ⊢
  have HBD := Lib.hid hbd
  clear he hX hshf hbd
  generalize hR : Fd.endR (L.map (Lx.shf at_), if X2 = -1 then -1 else X2 + at_) (at_ + (buf.size : Int)) = R
  have HR := Lib.hid hR
  clear hR
  have HST := Lib.hid hst
  clear hst
  have HK : Hid (∀ w' μ, St w w' ([aCel (w.heap.size + 1 + 1) 105 #[.int .i64 0, .string ⟨#[]⟩, .int .i64 0], aCel (w.heap.size + 1) 105 #[.int .i64 at_, .string buf, .int .i64 0], aCel w.heap.size 55 A] ++ μ) →
      w'.cell? ⟨w.heap.size + 1, 1, none⟩ = some (.string buf) ∧ w'.heap[w.heap.size]? = some (.cells A 55 (0, 0)) ∧ Below w.heap.size w w') := Lib.hid (fun w' μ h => ⟨(h.at3 1 rfl).2.1, h.heapAt 2 rfl, h.bel⟩)
  go_enter Try.func58, Try.ntmps58
  go_wp2
  generalize (((w.alloc (.cells A 55)).alloc (.cells #[.int .i64 at_, .string buf, .int .i64 0] 105)).alloc (.cells #[.int .i64 0, .string ⟨#[]⟩, .int .i64 0] 105)) = W at HST ⊢
  refine wp_region_held_drew (S := fun w' => w'.cell? ⟨w.heap.size + 1, 1, none⟩ = some (.string buf) ∧ w'.heap[w.heap.size]? = some (.cells A 55 (0, 0)) ∧ Below w.heap.size w w') (by kernel_rfl) (HK.out _ [] HST.out.drew) (fun hHeld => ?_)
  refine wpAnyH_take (i := 0) (v := .agg A.toList.toArray) rfl (by kernel_rfl) (by kernel_rfl) (by kernel_rfl) (fun _ _ _ h => h) (yieldsIf_load_mid (by rfl) 55 (.tmp 2) rfl w.heap.size 0 rfl A.toList _ (fun w' h => rangeOfRow h.2.1) Try.underlying55 rfl (by rw [Array.length_toList]; exact HS.out)) (by assumption) ?_
  try simp only [Act.put]
  try simp only [List.setIfInBounds_toArray]
  try simp only [List.set_cons_succ]
  try simp only [List.set_cons_zero]
  refine wpAnyH_take (i := 2) (v := .pointer (some ⟨w.heap.size + 1, 1, none⟩)) rfl (by kernel_rfl) (by kernel_rfl) (by kernel_rfl) (fun _ _ _ h => h) (Or.inl ⟨by rfl, fun w hSw => by obtain ⟨_, _, _⟩ := hSw; go_simp⟩) (by assumption) ?_
  try simp only [Act.put]
  try simp only [List.setIfInBounds_toArray]
  try simp only [List.set_cons_succ]
  try simp only [List.set_cons_zero]
  refine wpAnyH_take (i := 3) (v := .string buf) rfl (by kernel_rfl) (by kernel_rfl) (by kernel_rfl) (fun _ _ _ h => h) (Or.inl ⟨by rfl, fun w hSw => by obtain ⟨_, _, _⟩ := hSw; go_simp⟩) (by assumption) ?_
  try simp only [Act.put]
  try simp only [List.setIfInBounds_toArray]
  try simp only [List.set_cons_succ]
  try simp only [List.set_cons_zero]
  clear hHeld
  refine wpAnyH_ready (rs := [1]) (by kernel_rfl) (by simp) ?_
  refine AllReadyH.cons rfl (fun K hK => ?_) AllReadyH.nil
  go_simp
  go_at_call 30
  refine (HW.out _ (HP.out.below HST.out.drew.bel)).mono ?_
  rintro e w3 ⟨v0, rfl, ho3, hb3⟩
  obtain ⟨x0, y0, z0, rfl⟩ := ho3.isSlice
  have HST2 := Lib.hid (HST.out.drew.pushOwn hb3 ho3).get4.get4.get4
  clear hb3 ho3
  simp only
  refine hK.out _ _ (HK.out _ _ HST2.out) (fun hHeld => ?_)
  clear hK K
  try simp only [Act.put]
  try simp only [List.setIfInBounds_toArray]
  try simp only [List.set_cons_succ]
  try simp only [List.set_cons_zero]
  clear hHeld
  refine wpAnyH_ready (rs := [4]) (by kernel_rfl) (by simp) ?_
  refine AllReadyH.cons rfl (fun K hK => ?_) AllReadyH.nil
  go_simp
  go_at_call 31
  refine (HT.out _ _ (HDF.out _ _ _ (HST2.out.ownAt 3 rfl) HST2.out.bel)).mono ?_
  rintro e w4 ⟨v6, rfl, ho4, hb4⟩
  obtain ⟨a6, c6, rfl⟩ := ho4.isLen
  rw [List.length_map] at ho4 ⊢
  have HST3 := Lib.hid (HST2.out.pushOwn hb4 ho4).get4.get4.get4
  clear hb4 ho4
  simp only
  refine hK.out _ _ (HK.out _ _ HST3.out) (fun hHeld => ?_)
  clear hK K
  try simp only [Act.put]
  try simp only [List.setIfInBounds_toArray]
  try simp only [List.set_cons_succ]
  try simp only [List.set_cons_zero]
  refine wpAnyH_take (i := 5) (v := .tuple #[.slice a6 L.length c6, .int .i64 X2]) rfl (by kernel_rfl) (by kernel_rfl) (by kernel_rfl) (fun _ _ _ h => h) (Or.inl ⟨by rfl, fun w hSw => by go_simp⟩) (by assumption) ?_
  try simp only [Act.put]
  try simp only [List.setIfInBounds_toArray]
  try simp only [List.set_cons_succ]
  try simp only [List.set_cons_zero]
  refine wpAnyH_take (i := 6) (v := .slice a6 L.length c6) rfl (by kernel_rfl) (by kernel_rfl) (by kernel_rfl) (fun _ _ _ h => h) (Or.inl ⟨by rfl, fun w hSw => by go_simp⟩) (by assumption) ?_
  try simp only [Act.put]
  try simp only [List.setIfInBounds_toArray]
  try simp only [List.set_cons_succ]
  try simp only [List.set_cons_zero]
  refine wpAnyH_take (i := 7) (v := .int .i64 X2) rfl (by kernel_rfl) (by kernel_rfl) (by kernel_rfl) (fun _ _ _ h => h) (Or.inl ⟨by rfl, fun w hSw => by go_simp⟩) (by assumption) ?_
  try simp only [Act.put]
  try simp only [List.setIfInBounds_toArray]
  try simp only [List.set_cons_succ]
  try simp only [List.set_cons_zero]
  refine wpAnyH_take (i := 8) (v := .slice a6 L.length c6) rfl (by kernel_rfl) (by kernel_rfl) (by kernel_rfl) (fun _ _ _ h => h) (Or.inl ⟨by rfl, fun w hSw => by go_simp⟩) (by assumption) ?_
  try simp only [Act.put]
  try simp only [List.setIfInBounds_toArray]
  try simp only [List.set_cons_succ]
  try simp only [List.set_cons_zero]
  refine wpAnyH_take (i := 9) (v := .int .i64 X2) rfl (by kernel_rfl) (by kernel_rfl) (by kernel_rfl) (fun _ _ _ h => h) (Or.inl ⟨by rfl, fun w hSw => by go_simp⟩) (by assumption) ?_
  try simp only [Act.put]
  try simp only [List.setIfInBounds_toArray]
  try simp only [List.set_cons_succ]
  try simp only [List.set_cons_zero]
  refine wpAnyH_done (by kernel_rfl) ?_ _
  clear hHeld HST HST2 HK
  have hst := HST3.out.get4
  clear HST3
  obtain ⟨h0, h1, h2⟩ := hst.at3 2 rfl
  go_wp2
  have hst0 : St w w4 [aOwn 61 3 (.slice a6 L.length c6) ((Lx.pl L at_ 0).map tokV), aCel (w.heap.size + 1 + 1) 105 #[.int .i64 0, .string ⟨#[]⟩, .int .i64 0], aCel (w.heap.size + 1) 105 #[.int .i64 at_, .string buf, .int .i64 0], aCel w.heap.size 55 A, aOwn 137 256 (.slice x0 y0 z0) ((Wd.rows of next next.length).map Wd.rowV)] := by rw [Lx.pl_zero]; exact hst
  clear hst h0 h1 h2
  go_loopw [10] (fun i wr => ∃ k : Nat, k ≤ L.length ∧ i = .int .i64 k ∧ St w wr [aOwn 61 3 (.slice a6 L.length c6) ((Lx.pl L at_ k).map tokV), aCel (w.heap.size + 1 + 1) 105 #[.int .i64 0, .string ⟨#[]⟩, .int .i64 0], aCel (w.heap.size + 1) 105 #[.int .i64 at_, .string buf, .int .i64 0], aCel w.heap.size 55 A, aOwn 137 256 (.slice x0 y0 z0) ((Wd.rows of next next.length).map Wd.rowV)]) (fun i _ => L.length - (intOf i).toNat)
  case atStart => exact ⟨0, by omega, rfl, hst0⟩
  case round =>
    clear hst0
    obtain ⟨k, hk, rfl, hst⟩ := hrel
    by_cases hlt : k < L.length
    · obtain ⟨g, rfl⟩ := hst.own.addr (by rw [List.length_map, Lx.pl_len]; omega)
      obtain ⟨t1, t2, tf1, tf2⟩ := hst.cellTok k (by rw [Lx.pl_len]; exact hlt)
      have hpg := Lx.pl_get L at_ k hlt
      have hps := Lx.pl_step L at_ k hlt
      have hbd := HBD.out (L.getD k tk0) (by simp [List.getD, hlt])
      have h1 := hst.drew.setTok1 k (by rw [Lx.pl_len]; exact hlt) (((Lx.pl L at_ k).getD k tk0).2.1 + at_)
      have h2 := h1.drew.setTok2 k (by rw [List.length_set, Lx.pl_len]; exact hlt) (((Lx.pl L at_ k).getD k tk0).2.2 + at_)
      have hgg : ((Lx.pl L at_ k).set k (((Lx.pl L at_ k).getD k tk0).1, ((Lx.pl L at_ k).getD k tk0).2.1 + at_, ((Lx.pl L at_ k).getD k tk0).2.2)).getD k tk0 = (((Lx.pl L at_ k).getD k tk0).1, ((Lx.pl L at_ k).getD k tk0).2.1 + at_, ((Lx.pl L at_ k).getD k tk0).2.2) := by
        simp [List.getD, Lx.pl_len, hlt]
      obtain ⟨u1, u2, uf1, uf2⟩ := h1.drew.cellTok k (by rw [List.length_set, Lx.pl_len]; exact hlt)
      rw [hgg] at h2 u1 u2
      rw [List.set_set] at h2
      simp only at h2 u1 u2
      rw [hpg] at h2 t1 t2 u1 u2
      have hps2 : (Lx.pl L at_ k).set k ((L.getD k tk0).1, (L.getD k tk0).2.1 + at_, (L.getD k tk0).2.2 + at_) = Lx.pl L at_ (k + 1) := hps
      rw [hps2] at h2
      obtain ⟨c0, _, _⟩ := hst.at3 2 rfl
      obtain ⟨d0, _, _⟩ := h1.drew.at3 2 rfl
      rw [hpg] at d0 uf2
      have H2 := Lib.hid h2
      clear hst h1 h2 hgg hps hps2 hpg
      generalize L.getD k tk0 = x at *
      obtain ⟨x1, x2, x3⟩ := x
      simp only at t1 t2 u1 u2 hbd
      obtain ⟨b1, b2, b3, b4⟩ := hbd
      go_wp2
      have hwr : IntKind.i64.wrap (x2 + at_) = x2 + at_ := IntWalk.i64_in _ ⟨by omega, by omega⟩
      go_still_tail 10, (by kernel_rfl)
      change wpList _ _ _ _ _ wr.drew
      clear hwr
      have t1' : wr.drew.cell? ⟨g, k * 3 + 1, none⟩ = _ := t1
      have tf1' : wr.drew.frozen? ⟨g, k * 3 + 1, none⟩ = false := tf1
      generalize wr.drew = wd at *
      clear t1 t2 tf1 tf2 c0
      go_wp2
      generalize wd.setCell ⟨g, k * 3 + 1, none⟩ (.int .i64 (x2 + at_)) = we at *
      have hwr : IntKind.i64.wrap (x3 + at_) = x3 + at_ := IntWalk.i64_in _ ⟨by omega, by omega⟩
      have u2' : we.cell? ⟨g, k * 3 + 2, none⟩ = _ := u2
      have d0' : we.cell? ⟨w.heap.size + 1, 0, none⟩ = _ := d0
      go_still_tail 10, (by kernel_rfl)
      change wpList _ _ _ _ _ we.drew
      clear hwr u2' d0' t1' tf1'
      generalize we.drew = wf at *
      go_wp2
      go_roundw
      case rel => exact ⟨k + 1, by omega, by go_num, H2.out⟩
      case measure => simp [intOf]; omega
    · obtain rfl : k = L.length := by omega
      rw [Lx.pl_end] at hst
      by_cases hX2 : X2 = -1
      · have hr := HR.out
        rw [Fd.endR_ok (by simp [hX2])] at hr
        subst hr hX2
        have hst9 := ((hst.get2.setCel 0 (.int .i64 (at_ + buf.size))).setCel 1 (.string ⟨#[]⟩)).setCel 2 (.int .i64 15)
        obtain ⟨r0, r1, r2, rf0, rf1, rf2⟩ := (hst.nth 1 rfl).cel3
        obtain ⟨h0, h1, h2⟩ := hst.at3 2 rfl
        have H9 := Lib.hid hst9
        clear hst9 hst
        go_wp2
        obtain ⟨k0, k1, k2⟩ := H9.out.at3 0 rfl
        exact bodyPost_ret (v := .tuple #[.agg #[.int .i64 (at_ + buf.size), .string ⟨#[]⟩, .int .i64 15], .slice a6 L.length c6, .int .i64 0]) (by simp [results, Try.results58, go_sem, k0, k1, k2]) rfl ⟨_, rfl, H9.out.get2.own, H9.out.bel⟩
      · have hr : (⟨at_ + X2, ⟨#[]⟩, 9, L.map (Lx.shf at_), 9⟩ : Lx.Fed) = R := by rw [← HR.out, if_neg hX2, Fd.endR_bad (by simp only; omega), Int.add_comm]
        subst hr
        have hx0 : 0 ≤ X2 := by omega
        clear hX2
        have hst9 := ((hst.get2.setCel 0 (.int .i64 (at_ + X2))).setCel 1 (.string ⟨#[]⟩)).setCel 2 (.int .i64 9)
        obtain ⟨r0, r1, r2, rf0, rf1, rf2⟩ := (hst.nth 1 rfl).cel3
        obtain ⟨h0, h1, h2⟩ := hst.at3 2 rfl
        have H9 := Lib.hid hst9
        clear hst9 hst
        go_wp2
        obtain ⟨k0, k1, k2⟩ := H9.out.at3 0 rfl
        exact bodyPost_ret (v := .tuple #[.agg #[.int .i64 (at_ + X2), .string ⟨#[]⟩, .int .i64 9], .slice a6 L.length c6, .int .i64 9]) (by simp [results, Try.results58, go_sem, k0, k1, k2]) rfl ⟨_, rfl, H9.out.get2.own, H9.out.bel⟩
end Go.Proofs.Ytkgpipokfoadiaa
