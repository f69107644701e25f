/-
  Several makes in one drawn region: in whatever order, all of them are made. (A helper text; it claims nothing of the program.)
-/
import Derived.Test.YtlgabpcddldelaaDoorSepPick
import Derived.Deep.RegionLaw
namespace Go.Proofs.YtlgabpcddldelaaDoor
set_option linter.unusedVariables false
open Go.ChangeShapes Go.WideShapes Go.ChangeAt Go.RowKit

/-- One that makes a block: its number in the region, its slot, the value, the block, what is owned. -/
structure Mk where
  i : Nat
  d : Nat
  val : Nat → Value
  obj : Obj
  asrt : Nat → Asrt
namespace Mk
def asr (x : Mk × Nat) : Asrt := x.1.asrt x.2
def puts (a : Act) (l : List (Mk × Nat)) : Act := l.foldl (fun a x => a.put (some x.1.d) (x.1.val x.2)) a
/-- It does so whatever of the others is made already. -/
structure Does (P : Program) (ops : Array Oper) (all : List Mk) (a : Act) (m : Mk) : Prop where
  run : ∃ o, ops[m.i]? = some o ∧ o.dst = some m.d ∧ o.guard = none ∧ ∀ b : Act, (∀ s, (∀ m' ∈ all, m'.d ≠ s) → b.eval (.tmp s) = a.eval (.tmp s)) → ∀ w : World, (execOp b.eval o).run P w = .ok (.value (m.val w.heap.size)) (w.alloc m.obj)
  ok : ∀ w : World, (m.asrt w.heap.size).ok (w.alloc m.obj)
  fp : ∀ g, (m.asrt g).fp = [g]
/-- make([]T, n) -/
def make (i d n : Nat) (e : TypeId) (z : Value) : Mk := ⟨i, d, fun g => .slice (some ⟨g, 0, none⟩) n n, .cells (madeCells #[z] n) e, fun g => aOwn e 1 (.slice (some ⟨g, 0, none⟩) n n) (List.replicate n z)⟩
/-- A new block. -/
def cel (i d : Nat) (T : TypeId) (cs : Array Value) : Mk := ⟨i, d, fun g => .pointer (some ⟨g, 0, none⟩), .cells cs T, fun g => aCel g T cs⟩
def lst (l0 : Array Bool) (is : List Nat) : Array Bool := is.foldl (fun l i => l.setIfInBounds i true) l0
def subs : List Nat → List (List Nat)
  | [] => [[]]
  | x :: r => subs r ++ (subs r).map (x :: ·)
theorem filter_subs (p : Nat → Bool) (l : List Nat) : l.filter p ∈ subs l := by
  induction l with
  | nil => simp [subs]
  | cons x r ih =>
    rw [subs, List.mem_append, List.filter_cons]
    split
    · exact .inr (List.mem_map.2 ⟨_, ih, rfl⟩)
    · exact .inl ih
/-- Whatever is made already, those that may come up are the others; but where one stops. -/
def chk (ops : Array Oper) (l0 : Array Bool) (is : List Nat) (stops : List (List Nat)) : Bool :=
  stops.contains is && (subs is).all fun js => stops.contains js || decide (Region.ready .any ops (lst l0 js) = is.filter (fun i => !js.contains i))
theorem lst_perm {l0 : Array Bool} {is js : List Nat} (h : is.Perm js) : lst l0 is = lst l0 js := by
  unfold lst
  refine h.foldl_eq' (fun x _ y _ z => ?_) l0
  by_cases e : x = y
  · subst e; rfl
  · exact Array.setIfInBounds_comm _ _ e
theorem perm_lift {α β : Type} (f : α → β) : ∀ {m : List β} {l : List α}, (l.map f).Perm m → ∃ l', l.Perm l' ∧ l'.map f = m := by
  intro m
  induction m with
  | nil => intro l h; have := h.length_eq; simp at this; subst this; exact ⟨[], .nil, rfl⟩
  | cons x r ih =>
    intro l h
    obtain ⟨y, hy, rfl⟩ := List.mem_map.1 (h.mem_iff.2 (.head r))
    obtain ⟨s, t, rfl⟩ := List.append_of_mem hy
    have h2 : ((s ++ t).map f).Perm r := by
      have h3 : (f y :: (s ++ t).map f).Perm (f y :: r) := by
        refine List.Perm.trans ?_ h
        have := (List.perm_middle (l₁ := s) (l₂ := t) (a := y)).symm.map f
        simpa using this
      exact h3.cons_inv
    obtain ⟨l', h4, h5⟩ := ih h2
    exact ⟨y :: l', List.perm_middle.trans (h4.cons y), by rw [List.map_cons, h5]⟩
theorem inj_of {α β : Type} (f : α → β) {l : List α} (h : (l.map f).Nodup) {x y : α} (hx : x ∈ l) (hy : y ∈ l) (he : f x = f y) : x = y := by
  induction l with
  | nil => cases hx
  | cons a r ih =>
    rw [List.map_cons, List.nodup_cons] at h
    rcases List.mem_cons.1 hx with hx2 | hx2
    · rcases List.mem_cons.1 hy with hy2 | hy2
      · rw [hx2, hy2]
      · rw [hx2] at he
        exact absurd (List.mem_map.2 ⟨y, hy2, he.symm⟩) h.1
    · rcases List.mem_cons.1 hy with hy2 | hy2
      · rw [hy2] at he
        exact absurd (List.mem_map.2 ⟨x, hx2, he⟩) h.1
      · exact ih h.2 hx2 hy2
theorem puts_perm {a : Act} {l l' : List (Mk × Nat)} (h : l.Perm l') (hd : (l.map (·.1.d)).Nodup) : puts a l = puts a l' := by
  unfold puts
  refine h.foldl_eq' (fun x hx y hy z => ?_) a
  by_cases e : x.1.d = y.1.d
  · have := inj_of (fun x : Mk × Nat => x.1.d) hd hx hy e
    subst this; rfl
  · unfold Act.put
    simp only
    rw [Array.setIfInBounds_comm _ _ e]
theorem puts_eval {s : Nat} : ∀ {l : List (Mk × Nat)} {a : Act}, (∀ x ∈ l, x.1.d ≠ s) → (puts a l).eval (.tmp s) = a.eval (.tmp s) := by
  intro l
  induction l with
  | nil => intro a _; rfl
  | cons x r ih =>
    intro a h
    have h1 := ih (a := a.put (some x.1.d) (x.1.val x.2)) (fun y hy => h y (.tail _ hy))
    have h2 : (a.put (some x.1.d) (x.1.val x.2)).eval (.tmp s) = a.eval (.tmp s) := by
      have := h x (.head _)
      simp [Act.put, Act.eval, Array.getElem?_setIfInBounds_ne this]
    exact h1.trans h2
theorem does_make {P : Program} {ops : Array Oper} {all : List Mk} {a : Act} {i d n s : Nat} {t e : TypeId} {z : Value} {bytes : Nat} {o : Oper} (ho : ops[i]? = some o) (h1 : o.op = Op.makeSlice t (.tmp s) (.tmp s)) (h2 : o.dst = some d) (h3 : o.guard = none) (h4 : P.underlying t = some (.slice e))
    (h5 : (P.info? e).map (fun i => (i.zero, i.size, i.bytes)) = some (some z, 1, bytes)) (h6 : z.cells = #[z]) (h7 : 0 < bytes) (hn : (bytes : Int) * n ≤ 140737488355328) (h9 : a.eval (.tmp s) = .int .i64 (n : Int)) (h11 : (all.map (·.d)).contains s = false) : Does P ops all a (make i d n e z) := by
  have h10 : ∀ m' ∈ all, m'.d ≠ s := fun m' hm e => by
    rw [← Bool.not_eq_true, List.contains_iff_mem] at h11
    exact h11 (List.mem_map.2 ⟨m', hm, e⟩)
  have hn' : bytes * n ≤ 140737488355328 := by rw [← Int.natCast_mul] at hn; omega
  have hle : n ≤ bytes * n := Nat.le_mul_of_pos_left n h7
  refine ⟨⟨o, ho, h2, h3, fun b hb w => ?_⟩, fun w => own_mk w e z h6 n (by unfold maxLen; omega), fun g => rfl⟩
  have hrun := run_make_row' (P := P) t e z bytes h4 h5 h6 .i64 .i64 n (by omega) (by omega) w
  have hev := (hb s h10).trans h9
  simp [execOp, h1, hev, hrun, Result.andThen, make]
theorem does_cel {P : Program} {ops : Array Oper} {all : List Mk} {a : Act} {i d : Nat} {T : TypeId} {cs : Array Value} {o : Oper} (ho : ops[i]? = some o) (h2 : o.dst = some d) (h3 : o.guard = none) (hr : ∀ b : Act, ∀ w : World, (execOp b.eval o).run P w = .ok (.value (.pointer (some ⟨w.heap.size, 0, none⟩))) (w.alloc (.cells cs T))) : Does P ops all a (cel i d T cs) :=
  ⟨⟨o, ho, h2, h3, fun b _ w => hr b w⟩, fun w => heap_alloc_new _ _, fun g => rfl⟩
end Mk

theorem wpAny_makes {P : Program} {w0 : World} {μ : List Asrt} {ops : Array Oper} {Q : Exit → Act → World → Prop} (all : List Mk) (stops : List (List Nat)) (fuel : Nat) (l0 : Array Bool) (a : Act)
    (hck : Mk.chk ops l0 (all.map (·.i)) stops = true) (hdn : (all.map (·.d)).Nodup) (hin : (all.map (·.i)).Nodup) (hop : ∀ m ∈ all, Mk.Does P ops all a m)
    (hK : ∀ js ∈ stops, ∀ (k : Nat) (ds : List (Mk × Nat)), ds.map (·.1) = all.filter (fun m => js.contains m.i) → ds.length + k = all.length → ∀ w', St w0 w' (ds.map Mk.asr ++ μ) → wpAny P .any ops Q (k + fuel) (Mk.lst l0 (ds.map (·.1.i))) (Mk.puts a ds) w') :
    ∀ (k : Nat) (pend : List Mk) (done : List (Mk × Nat)) (w : World), pend.length = k → (done.map (·.1) ++ pend).Perm all → St w0 w (done.map Mk.asr ++ μ) → wpAny P .any ops Q (k + fuel) (Mk.lst l0 (done.map (·.1.i))) (Mk.puts a done) w := by
  unfold Mk.chk at hck
  rw [Bool.and_eq_true, List.all_eq_true] at hck
  obtain ⟨hfin, hck⟩ := hck
  intro k
  induction k with
  | zero =>
    intro pend done w hl hp hst
    have : pend = [] := List.eq_nil_of_length_eq_zero hl
    subst this
    rw [List.append_nil] at hp
    obtain ⟨ds, h1, h2⟩ := Mk.perm_lift (fun x : Mk × Nat => x.1) hp
    have hfa : all.filter (fun m => (all.map (·.i)).contains m.i) = all := by
      refine List.filter_eq_self.2 (fun m hm => ?_)
      rw [List.contains_iff_mem]
      exact List.mem_map.2 ⟨m, hm, rfl⟩
    have h3 := hK (all.map (·.i)) (by rw [List.contains_iff_mem] at hfin; exact hfin) 0 ds (by rw [hfa]; exact h2) (by have := congrArg List.length h2; simpa using this) w (hst.perm ((h1.map _).append_right μ))
    have hdd : (done.map (·.1.d)).Nodup := by
      have := (hp.map (·.d)).nodup_iff.2 hdn
      rw [List.map_map] at this
      exact this
    rw [Mk.puts_perm h1 hdd, Mk.lst_perm (h1.map (·.1.i))]
    exact h3
  | succ k ih =>
    intro pend done w hl hp hst
    obtain ⟨m0, r0, rfl⟩ : ∃ m r, pend = m :: r := by cases pend with | nil => simp at hl | cons m r => exact ⟨m, r, rfl⟩
    have hip := (hp.map (·.i)).nodup_iff.2 hin
    have hdp := (hp.map (·.d)).nodup_iff.2 hdn
    rw [List.map_append, List.map_map] at hip hdp
    have hgen : ∀ (p : Mk → Bool), (∀ x ∈ done, p x.1 = true) → (∀ m ∈ m0 :: r0, p m = false) → (all.filter p).Perm (done.map (·.1)) := by
      intro p h1 h2
      refine (hp.filter p).symm.trans ?_
      rw [List.filter_append]
      have h3 : (done.map (·.1)).filter p = done.map (·.1) := by
        refine List.filter_eq_self.2 (fun m hm => ?_)
        obtain ⟨x, hx, rfl⟩ := List.mem_map.1 hm
        exact h1 x hx
      have h4 : (m0 :: r0).filter p = [] := by
        rw [List.filter_eq_nil_iff]
        intro m hm
        rw [h2 m hm]; simp
      rw [h3, h4, List.append_nil]
    have hdc : ∀ x ∈ done, (done.map (·.1.i)).contains x.1.i = true := fun x hx => by rw [List.contains_iff_mem]; exact List.mem_map.2 ⟨x, hx, rfl⟩
    have hpc : ∀ m ∈ m0 :: r0, (done.map (·.1.i)).contains m.i = false := fun m hm => by
      rw [← Bool.not_eq_true, List.contains_iff_mem]
      intro hc
      rw [List.nodup_append] at hip
      exact hip.2.2 m.i hc m.i (List.mem_map.2 ⟨m, hm, rfl⟩) rfl
    have h1 := hck _ (Mk.filter_subs (fun i => (done.map (·.1.i)).contains i) (all.map (·.i)))
    have hfm : (all.map (·.i)).filter (fun i => (done.map (·.1.i)).contains i) = (all.filter (fun m => (done.map (·.1.i)).contains m.i)).map (·.i) := by rw [List.filter_map]; rfl
    have hperm : ((all.map (·.i)).filter (fun i => (done.map (·.1.i)).contains i)).Perm (done.map (·.1.i)) := by
      rw [hfm]
      have := (hgen _ hdc hpc).map (·.i)
      rw [List.map_map] at this
      exact this
    rw [Bool.or_eq_true, decide_eq_true_eq] at h1
    rcases h1 with h1 | h1
    · -- here one stops
      have hp1 := hgen (fun m => ((all.map (·.i)).filter (fun i => (done.map (·.1.i)).contains i)).contains m.i) (fun x hx => by
        rw [List.contains_iff_mem, hperm.mem_iff]
        exact List.mem_map.2 ⟨x, hx, rfl⟩) (fun m hm => by
        have := hpc m hm
        rw [← Bool.not_eq_true, List.contains_iff_mem] at this ⊢
        rw [hperm.mem_iff]
        exact this)
      obtain ⟨ds, h2, h3⟩ := Mk.perm_lift (fun x : Mk × Nat => x.1) hp1.symm
      have hdd : (done.map (·.1.d)).Nodup := by
        rw [List.nodup_append] at hdp
        exact hdp.1
      rw [Mk.puts_perm h2 hdd, Mk.lst_perm (h2.map (·.1.i))]
      refine hK _ (by rw [List.contains_iff_mem] at h1; exact h1) (k + 1) ds h3 ?_ w (hst.perm ((h2.map _).append_right μ))
      have e1 := hp.length_eq
      have e2 := h2.length_eq
      rw [List.length_append, List.length_map] at e1
      omega
    · rw [Mk.lst_perm hperm] at h1
      have hready : Region.ready .any ops (Mk.lst l0 (done.map (·.1.i))) = (all.map (·.i)).filter (fun i => !(done.map (·.1.i)).contains i) := by
        rw [h1]
        refine List.filter_congr (fun x hx => ?_)
        congr 1
        rw [Bool.eq_iff_iff, List.contains_iff_mem, List.contains_iff_mem, hperm.mem_iff]
      rw [Nat.succ_add, wpAny, hready]
      refine ⟨fun h0 => ?_, fun i hi => ?_⟩
      · exfalso
        rw [List.filter_eq_nil_iff] at h0
        have hm0 : m0 ∈ all := hp.mem_iff.1 (by simp)
        refine h0 m0.i (List.mem_map.2 ⟨m0, hm0, rfl⟩) ?_
        rw [hpc m0 (.head _)]; rfl
      · rw [List.mem_filter, List.mem_map] at hi
        obtain ⟨⟨m, hm, rfl⟩, hnc⟩ := hi
        rw [Bool.not_eq_true', ← Bool.not_eq_true, List.contains_iff_mem] at hnc
        have hmp : m ∈ m0 :: r0 := by
          rcases List.mem_append.1 (hp.mem_iff.2 hm) with h1 | h1
          · obtain ⟨x, hx, rfl⟩ := List.mem_map.1 h1
            exact absurd (List.mem_map.2 ⟨x, hx, rfl⟩) hnc
          · exact h1
        obtain ⟨s, t, hst2⟩ := List.append_of_mem hmp
        rw [hst2] at hp
        obtain ⟨⟨o, ho, h2, h3, hrun⟩, hok, hfp⟩ := hop m hm
        have hex := hrun (Mk.puts a done) (fun s hs => Mk.puts_eval (fun x hx => hs x.1 (hp.mem_iff.1 (List.mem_append.2 (.inl (List.mem_map.2 ⟨x, hx, rfl⟩)))))) w
        unfold wpOp
        simp only [ho]
        rw [if_pos (by simp [Region.wanted, h3])]
        refine .inl ?_
        unfold Oper.wp
        rw [hex]
        simp only [Oper.upon]
        have hst3 : St w0 (w.alloc m.obj) (Mk.asr (m, w.heap.size) :: (done.map Mk.asr ++ μ)) := by
          refine hst.push ((Below.refl _ _).alloc (Nat.le_refl _) _) (hok w) (fun b hb => ?_) (by show (m.asrt w.heap.size).fp.Nodup; rw [hfp]; simp)
          have hb2 : b ∈ (m.asrt w.heap.size).fp := hb
          rw [hfp] at hb2
          simp at hb2
          subst hb2
          simp
        have h11 := ih (s ++ t) (done ++ [(m, w.heap.size)]) (w.alloc m.obj) (by rw [hst2] at hl; simp at hl ⊢; omega) (by
          refine List.Perm.trans ?_ hp
          rw [List.map_append, List.append_assoc]
          refine List.Perm.append_left _ ?_
          show List.Perm (m :: (s ++ t)) (s ++ m :: t)
          exact List.perm_middle.symm) (by
          refine hst3.perm ?_
          rw [List.map_append, List.append_assoc]
          exact List.perm_middle.symm)
        have h12 : Mk.lst l0 ((done ++ [(m, w.heap.size)]).map (·.1.i)) = (Mk.lst l0 (done.map (·.1.i))).setIfInBounds m.i true := by simp [Mk.lst]
        have h13 : Mk.puts a (done ++ [(m, w.heap.size)]) = (Mk.puts a done).put o.dst (m.val w.heap.size) := by rw [h2]; simp [Mk.puts]
        rw [h12, h13] at h11
        exact h11
/-- All of them, from the start. -/
theorem St.makes {P : Program} {w0 w : World} {μ : List Asrt} {ops : Array Oper} {Q : Exit → Act → World → Prop} (all : List Mk) (stops : List (List Nat)) (fuel : Nat) {m : Nat} {l0 : Array Bool} {a : Act} (h : St w0 w μ) (hm : m = all.length + fuel)
    (hck : Mk.chk ops l0 (all.map (·.i)) stops = true) (hdn : decide (all.map (·.d)).Nodup = true) (hin : decide (all.map (·.i)).Nodup = true) (hop : ∀ m ∈ all, Mk.Does P ops all a m)
    (hK : ∀ js ∈ stops, ∀ (k : Nat) (ds : List (Mk × Nat)), ds.map (·.1) = all.filter (fun m => js.contains m.i) → ds.length + k = all.length → ∀ w', St w0 w' (ds.map Mk.asr ++ μ) → wpAny P .any ops Q (k + fuel) (Mk.lst l0 (ds.map (·.1.i))) (Mk.puts a ds) w') : wpAny P .any ops Q m l0 a w := by
  subst hm
  exact wpAny_makes all stops fuel l0 a hck (of_decide_eq_true hdn) (of_decide_eq_true hin) hop hK all.length all [] w rfl (List.Perm.refl _) h
/-- A list of pairs by its first parts. -/
theorem Mk.split {x : Mk} {r : List Mk} {ds : List (Mk × Nat)} (h : ds.map (·.1) = x :: r) : ∃ g ds', ds = (x, g) :: ds' ∧ ds'.map (·.1) = r := by
  cases ds with
  | nil => cases h
  | cons y ds => rw [List.map_cons, List.cons.injEq] at h; obtain ⟨m, g⟩ := y; obtain ⟨rfl, h2⟩ := h; exact ⟨g, ds, rfl, h2⟩
theorem Mk.done {ds : List (Mk × Nat)} (h : ds.map (·.1) = []) : ds = [] := by simpa using h
end Go.Proofs.YtlgabpcddldelaaDoor
