/- Contracts. -/
import Derived.Test.YtiieincddkhcdaaGreatLc
set_option linter.unusedSimpArgs false
set_option linter.unusedVariables false
namespace Go.Proofs.Tryz
open Go Go.Aix
set_option maxRecDepth 100000
set_option maxHeartbeats 4000000
theorem ent48 : Enters Tryz.prog 48 := ⟨Tryz.f48, Tryz.func48, by kernel_rfl, by kernel_rfl⟩
theorem s48 {I : Ops} (hI : I = real)  : Sound Tryz.prog 48 (inl X I (Tab.calls []) Tryz.f48) :=
  Sound.inl (Y := (Tab.calls [])) xok (TabOk.calls mixed trivial) ent48 Tryz.func48 rfl rfl hI
theorem ent81 : Enters Tryz.prog 81 := ⟨Tryz.f81, Tryz.func81, by kernel_rfl, by kernel_rfl⟩
abbrev G81_0 (w : World) (Xs : Nat → Prop) (plan : List NodeV) (r0 : List Int) (x17 : Int) (r : RES) : Prop := WL [0, 4, 15, 16, 17] Tryz.prog 81 Tryz.f81 (Ent0 w Xs) (Back (Ent0 w Xs) r.1 r.2.1 r.2.2) (place (bodyOf Tryz.f81) [1,1,1,0,1,0,0] [])
  ⟨[(0, .one (.pv (.sl false 7 (tNode.encs plan)))), (4, .one (.arr 0 0 r0.length)), (15, .one (.pv (.sl false 7 (tNode.encs plan)))), (16, .one (.pv (.sc (.int .i64 (plan.length : Int))))), (17, .one (.pv (.sc (.int .i64 x17))))], [(0, .row 1 (tI64.encs r0))], 1⟩
abbrev G81_1 (w : World) (Xs : Nat → Prop) (plan : List NodeV) (r0 : List Int) (x17 : Int) (x36 : Int) (r : RES) : Prop := WL [0, 4, 5, 6, 15, 16, 17, 34, 35, 36] Tryz.prog 81 Tryz.f81 (Ent0 w Xs) (Back (Ent0 w Xs) r.1 r.2.1 r.2.2) (place (bodyOf Tryz.f81) [1,1,1,0,1,0,0,1,1,0,0,1,1,0,1,0,0] [])
  ⟨[(0, .one (.pv (.sl false 7 (tNode.encs plan)))), (4, .one (.arr 0 0 r0.length)), (5, .one (.pv (.sc (.int .i64 x17)))), (6, .one (.ptr 1 0 0)), (15, .one (.pv (.sl false 7 (tNode.encs plan)))), (16, .one (.pv (.sc (.int .i64 (plan.length : Int))))), (17, .one (.pv (.sc (.int .i64 x17)))), (34, .one (.pv (.sl false 1 (tI64.encs (readsL (nth plan x17.toNat)))))), (35, .one (.pv (.sc (.int .i64 ((readsL (nth plan x17.toNat)).length : Int))))), (36, .one (.pv (.sc (.int .i64 x36))))], [(0, .row 1 (tI64.encs r0)), (1, .box [.pv (.sc (.int .i64 ((nth plan x17.toNat).op))), .pv (.sc (.int .i64 ((nth plan x17.toNat).a))), .pv (.sc (.int .i64 ((nth plan x17.toNat).b))), .pv (.sc (.int .i64 ((nth plan x17.toNat).col))), .pv (.sc (.int .i64 ((nth plan x17.toNat).test))), .pv (.sc (.int .i64 ((nth plan x17.toNat).value))), .pv (.sl false 1 (tI64.encs ((nth plan x17.toNat).cells)))])], 2⟩
noncomputable def Y81 (I : Ops) (K : FuncId → En) : CallsA := (Tab.calls [(48, true, callRd I (inl X I (Tab.calls []) Tryz.f48)), (47, true, callRd I (inl X I (Tab.calls []) Tryz.f47)), (118, true, callPv (callE I (K 118) sh118)), (117, true, callRd I (callE I (K 117) sh117)), (119, true, callPv (callE I (K 119) sh119)), (120, true, callRd I (callE I (K 120) sh120)), (121, true, callRd I (callE I (K 121) sh121))])
theorem tY81 {I : Ops} (hI : I = real) {K : FuncId → En} (k118 : K 118 = en118) (k117 : K 117 = en117) (k119 : K 119 = en119) (k120 : K 120 = en120) (k121 : K 121 = en121) : CallsOk Tryz.prog (Y81 I K) := (TabOk.calls mixed ⟨EntryOk.rd (s48 hI) hI, fun _ => callRd_quiet _ _, ⟨EntryOk.rd (s47 hI) hI, fun _ => callRd_quiet _ _, ⟨EntryOk.pv (s118 hI k118), fun _ => callPv_quiet _, ⟨EntryOk.rd (s117 hI k117) hI, fun _ => callRd_quiet _ _, ⟨EntryOk.pv (s119 hI k119), fun _ => callPv_quiet _, ⟨EntryOk.rd (s120 hI k120) hI, fun _ => callRd_quiet _ _, ⟨EntryOk.rd (s121 hI k121) hI, fun _ => callRd_quiet _ _, trivial⟩⟩⟩⟩⟩⟩⟩)
theorem st81_0 {w : World} {Xs : Nat → Prop} (plan : List NodeV) (r0 : List Int) (x17 : Int) {r : RES} (h : (if x17 < (plan.length : Int) then ((0 ≤ x17 ∧ x17 < (plan.length : Int)) ∧ (if 1 ≤ (nth plan x17.toNat).op then (if (nth plan x17.toNat).op ≤ 12 then (((nth plan x17.toNat).cells.length < 4611686018427387904) ∧ (if (decide ((nth plan x17.toNat) = (plainN (nth plan x17.toNat)))) = true then G81_1 w Xs plan r0 x17 0 r else r = (.tp [(false, [.pv (.sl false 1 [])]), (false, [.pv (.sc (.int .i64 1))])], [], 0))) else r = (.tp [(false, [.pv (.sl false 1 [])]), (false, [.pv (.sc (.int .i64 5))])], [], 0)) else r = (.tp [(false, [.pv (.sl false 1 [])]), (false, [.pv (.sc (.int .i64 5))])], [], 0))) else r = (.tp [(false, [.pv (.sl false 1 (tI64.encs r0))]), (false, [.pv (.sc (.int .i64 0))])], [], 0))) : G81_0 w Xs plan r0 x17 r := by
  obtain ⟨I, hI⟩ : ∃ I, I = real := ⟨_, rfl⟩; obtain ⟨K, k118, k117, k119, k120, k121⟩ : ∃ K : FuncId → En, K 118 = en118 ∧ K 117 = en117 ∧ K 119 = en119 ∧ K 120 = en120 ∧ K 121 = en121 := ⟨fun g => (lk g [(118, en118), (117, en117), (119, en119), (120, en120), (121, en121)]).getD default, rfl, rfl, rfl, rfl, rfl⟩
  unfold G81_0 WL
  obtain ⟨q0, hq0⟩ := eqv (plan.length : Int)
  try rw [← hq0]
  obtain ⟨q1, hq1⟩ := eqv (tNode.encs plan)
  try rw [← hq1]
  obtain ⟨q2, hq2⟩ := eqv (tI64.encs r0)
  try rw [← hq2]
  obtain ⟨q3, hq3⟩ := eqv r0.length
  try rw [← hq3]
  have hS := And.intro hI (And.intro k118 (And.intro k117 (And.intro k119 (And.intro k120 (And.intro k121 (And.intro hq0 (And.intro hq1 (And.intro hq2 hq3))))))))
  refine W_go (Y := (Y81 I K)) xok (tY81 hI k118 k117 k119 k120 k121) Tryz.func81 rfl 2000 _ hI ?_; (conv => arg 4; cbv)
  exact finl
theorem st81_1 {w : World} {Xs : Nat → Prop} (plan : List NodeV) (r0 : List Int) (x17 : Int) (x36 : Int) {r : RES} (h : (if x36 < ((readsL (nth plan x17.toNat)).length : Int) then ((0 ≤ x36 ∧ x36 < ((readsL (nth plan x17.toNat)).length : Int)) ∧ (if 0 ≤ (nth (readsL (nth plan x17.toNat)) x36.toNat) then (if (nth (readsL (nth plan x17.toNat)) x36.toNat) ≤ (IntKind.i64.wrap (x17 - 1)) then ((0 ≤ (nth (readsL (nth plan x17.toNat)) x36.toNat) ∧ (nth (readsL (nth plan x17.toNat)) x36.toNat) < (plan.length : Int)) ∧ (if (nth plan ((nth (readsL (nth plan x17.toNat)) x36.toNat).toNat)).op = 12 then r = (.tp [(false, [.pv (.sl false 1 [])]), (false, [.pv (.sc (.int .i64 3))])], [], 0) else G81_1 w Xs plan r0 x17 (IntKind.i64.wrap (x36 + 1)) r)) else r = (.tp [(false, [.pv (.sl false 1 [])]), (false, [.pv (.sc (.int .i64 3))])], [], 0)) else r = (.tp [(false, [.pv (.sl false 1 [])]), (false, [.pv (.sc (.int .i64 3))])], [], 0))) else ((1 ≤ (nth plan x17.toNat).op ∧ (nth plan x17.toNat).op ≤ 12) ∧ (((nth plan x17.toNat).op ≠ 1 → 0 ≤ (nth plan x17.toNat).a ∧ (nth plan x17.toNat).a.toNat < r0.length) ∧ (((nth plan x17.toNat).op = 4 ∨ (nth plan x17.toNat).op = 6 → 0 ≤ (nth plan x17.toNat).b ∧ (nth plan x17.toNat).b.toNat < r0.length) ∧ (if fieldF (nth plan x17.toNat) (nth r0 (nth plan x17.toNat).a.toNat) (nth r0 (nth plan x17.toNat).b.toNat) = 0 then (((nth plan x17.toNat).op ≠ 1 → (nth plan x17.toNat).op ≠ 3 → ¬ (7 ≤ (nth plan x17.toNat).op ∧ (nth plan x17.toNat).op ≤ 10) → 0 ≤ (nth plan x17.toNat).a ∧ (nth plan x17.toNat).a.toNat < r0.length) ∧ (((nth plan x17.toNat).op = 6 → 0 ≤ (nth plan x17.toNat).b ∧ (nth plan x17.toNat).b.toNat < r0.length) ∧ (((r0.length + 1) ≤ 17592186044416) ∧ G81_0 w Xs plan (r0 ++ [widF (nth plan x17.toNat) r0]) (IntKind.i64.wrap (x17 + 1)) r))) else r = (.tp [(false, [.pv (.sl false 1 [])]), (false, [.pv (.sc (.int .i64 (fieldF (nth plan x17.toNat) (nth r0 (nth plan x17.toNat).a.toNat) (nth r0 (nth plan x17.toNat).b.toNat))))])], [], 0))))))) : G81_1 w Xs plan r0 x17 x36 r := by
  obtain ⟨I, hI⟩ : ∃ I, I = real := ⟨_, rfl⟩; obtain ⟨K, k118, k117, k119, k120, k121⟩ : ∃ K : FuncId → En, K 118 = en118 ∧ K 117 = en117 ∧ K 119 = en119 ∧ K 120 = en120 ∧ K 121 = en121 := ⟨fun g => (lk g [(118, en118), (117, en117), (119, en119), (120, en120), (121, en121)]).getD default, rfl, rfl, rfl, rfl, rfl⟩
  unfold G81_1 WL
  obtain ⟨q0, hq0⟩ := eqv ((readsL (nth plan x17.toNat)).length : Int)
  try rw [← hq0]
  obtain ⟨q1, hq1⟩ := eqv (tI64.encs (readsL (nth plan x17.toNat)))
  try rw [← hq1]
  obtain ⟨q2, hq2⟩ := eqv (tI64.encs ((nth plan x17.toNat).cells))
  try rw [← hq2]
  obtain ⟨q3, hq3⟩ := eqv ((nth plan x17.toNat).value)
  try rw [← hq3]
  obtain ⟨q4, hq4⟩ := eqv ((nth plan x17.toNat).test)
  try rw [← hq4]
  obtain ⟨q5, hq5⟩ := eqv ((nth plan x17.toNat).col)
  try rw [← hq5]
  obtain ⟨q6, hq6⟩ := eqv ((nth plan x17.toNat).op)
  try rw [← hq6]
  obtain ⟨q7, hq7⟩ := eqv ((nth plan x17.toNat).a)
  try rw [← hq7]
  obtain ⟨q8, hq8⟩ := eqv ((nth plan x17.toNat).b)
  try rw [← hq8]
  obtain ⟨q9, hq9⟩ := eqv (plan.length : Int)
  try rw [← hq9]
  obtain ⟨q10, hq10⟩ := eqv (tNode.encs plan)
  try rw [← hq10]
  obtain ⟨q11, hq11⟩ := eqv (tI64.encs r0)
  try rw [← hq11]
  obtain ⟨q12, hq12⟩ := eqv r0.length
  try rw [← hq12]
  have hS := And.intro hI (And.intro k118 (And.intro k117 (And.intro k119 (And.intro k120 (And.intro k121 (And.intro hq0 (And.intro hq1 (And.intro hq2 (And.intro hq3 (And.intro hq4 (And.intro hq5 (And.intro hq6 (And.intro hq7 (And.intro hq8 (And.intro hq9 (And.intro hq10 (And.intro hq11 hq12)))))))))))))))))
  refine W_go (Y := (Y81 I K)) xok (tY81 hI k118 k117 k119 k120 k121) Tryz.func81 rfl 2000 _ hI ?_; (conv => arg 4; cbv)
  exact finl
theorem go81 (plan : List NodeV) {r : RES} (h : ∀ (w : World) (Xs : Nat → Prop), (if 1 ≤ (plan.length : Int) then (if (plan.length : Int) ≤ 8 then G81_0 w Xs plan ([]) 0 r else r = (.tp [(false, [.pv (.sl false 1 [])]), (false, [.pv (.sc (.int .i64 2))])], [], 0)) else r = (.tp [(false, [.pv (.sl false 1 [])]), (false, [.pv (.sc (.int .i64 2))])], [], 0))) : Ok0 Tryz.prog 81 [(pL tNode).enc plan] r.1 r.2.1 r.2.2 := by
  obtain ⟨I, hI⟩ : ∃ I, I = real := ⟨_, rfl⟩; obtain ⟨K, k118, k117, k119, k120, k121⟩ : ∃ K : FuncId → En, K 118 = en118 ∧ K 117 = en117 ∧ K 119 = en119 ∧ K 120 = en120 ∧ K 121 = en121 := ⟨fun g => (lk g [(118, en118), (117, en117), (119, en119), (120, en120), (121, en121)]).getD default, rfl, rfl, rfl, rfl, rfl⟩
  show Ok0 Tryz.prog 81 [.one (.pv (.sl false 7 (tNode.encs plan)))] _ _ _
  obtain ⟨q0, hq0⟩ := eqv (tNode.encs plan)
  try rw [← hq0]
  have hS := And.intro hI (And.intro k118 (And.intro k117 (And.intro k119 (And.intro k120 (And.intro k121 hq0)))))
  refine Ok0_run (Y := (Y81 I K)) xok (tY81 hI k118 k117 k119 k120 k121) Tryz.func81 rfl rfl rfl 2000 hI fun w Xs => ?_; (conv => arg 4; cbv)
  replace h := h w Xs
  exact finl
def okPlan (plan : List NodeV) : Bool := decide (plan.length < 4611686018427387904) && plan.all fun e => decide (e.cells.length < 4611686018427387904)
theorem okPlan_len {plan : List NodeV} (h : okPlan plan = true) : plan.length < 4611686018427387904 := by
  unfold okPlan at h
  simp only [Bool.and_eq_true, decide_eq_true_eq] at h
  exact h.1
theorem okPlan_cells {plan : List NodeV} (h : okPlan plan = true) {i : Nat} (hi : i < plan.length) : (nth plan i).cells.length < 4611686018427387904 := by
  unfold okPlan at h
  simp only [Bool.and_eq_true, decide_eq_true_eq, List.all_eq_true] at h
  exact h.2 _ (nth_mem hi)
def lookL (plan : List NodeV) (c : Int) : List Int := if c = 0 then wsOf plan plan.length else []
def lookR (plan : List NodeV) (c : Int) : RES := (.tp [(false, [.pv (.sl false 1 (tI64.encs (lookL plan c)))]), (false, [.pv (.sc (.int .i64 c))])], [], 0)
theorem lookR_bad {plan : List NodeV} {c : Int} (h : c ≠ 0) : lookR plan c = (.tp [(false, [.pv (.sl false 1 [])]), (false, [.pv (.sc (.int .i64 c))])], [], 0) := by
  unfold lookR lookL
  rw [if_neg h]
  rfl
theorem readsL_len (x : NodeV) : (readsL x).length ≤ 2 := by unfold readsL; split <;> (try split) <;> simp
theorem lm_looked {w : World} {Xs : Nat → Prop} (plan : List NodeV) (hl : plan.length ≤ 8) (hp : okPlan plan = true) :
    ∀ k i : Nat, k + i = plan.length → (∀ j, j < i → (wid plan j).isSome = true) → G81_0 w Xs plan (wsOf plan i) i (lookR plan (planLp plan k i)) := by
  intro k
  induction k with
  | zero =>
    intro i hk hW
    apply st81_0
    rw [if_neg (by omega)]
    have hi : i = plan.length := by omega
    subst hi
    unfold lookR lookL planLp
    rw [if_pos rfl]
  | succ k ih =>
    intro i hk hW
    have hwl := wsOf_len plan i
    obtain ⟨x, hx⟩ : ∃ x, nth plan i = x := ⟨_, rfl⟩
    apply st81_0
    rw [if_pos (by omega), Int.toNat_natCast, hx]
    refine ⟨by omega, ?_⟩
    by_cases hop : 1 ≤ x.op ∧ x.op ≤ 12
    · rw [if_pos hop.1, if_pos hop.2]
      refine ⟨by rw [← hx]; exact okPlan_cells hp (by omega), ?_⟩
      have hsame := plain_named hop
      cases hnm : named x with
      | false =>
        have e1 : nodeF plan i = 1 := by unfold nodeF; rw [hx]; rw [if_neg (by omega), if_pos hnm]
        rw [if_neg (by simp [hsame, hnm]), planLp, e1, if_neg (by decide), lookR_bad (by decide)]
      | true =>
        rw [if_pos (by simp [hsame, hnm])]
        have hbad := fun e => node_bad (e := e) hx hop hnm
        have hgood := node_good hx hop hnm
        have hr2 := readsL_len x
        have inner : ∀ (kk q : Nat), kk + q = (readsL x).length → (∀ j, j < q → ¬ badRead plan i (nth (readsL x) j)) → G81_1 w Xs plan (wsOf plan i) i q (lookR plan (planLp plan (k + 1) i)) := by
          intro kk
          induction kk with
          | zero =>
            intro q hq hok
            have hall : ∀ e ∈ readsL x, ¬ badRead plan i e := by
              intro e he
              obtain ⟨j, hj, rfl⟩ := List.mem_iff_getElem.1 he
              have := hok j (by omega)
              rwa [nth, List.getElem?_eq_getElem hj] at this
            obtain ⟨hA, hB, hF⟩ := hgood hall
            apply st81_1
            simp only [Int.toNat_natCast, hx]
            rw [if_neg (by omega)]
            refine ⟨hop, fun h => by rw [hwl]; exact hA h, fun h => by rw [hwl]; exact hB h, ?_⟩
            refine if_go (fun h0 => ?_) (fun h0 => ?_)
            · refine ⟨fun h _ _ => by rw [hwl]; exact hA h, fun h => by rw [hwl]; exact hB (.inr h), by omega, ?_⟩
              have h0 : nodeF plan i = 0 := hF.trans h0
              rw [wid_width hx (nodeF_wid h0 hW), ← wsOf_succ, wsucc (by omega), planLp, if_pos h0]
              exact ih (i + 1) (by omega) (fun j hj => by
                by_cases hji : j < i
                · exact hW j hji
                · have : j = i := by omega
                  subst this
                  exact nodeF_wid h0 hW)
            · rw [planLp, hF, if_neg h0, lookR_bad h0]
          | succ kk ihh =>
            intro q hq hok
            apply st81_1
            simp only [Int.toNat_natCast, hx]
            rw [if_pos (by omega)]
            have hw1 : IntKind.i64.wrap ((i : Int) - 1) = (i : Int) - 1 := by rw [IntKind.wrap_i64]; omega
            have hmem : nth (readsL x) q ∈ readsL x := nth_mem (by omega)
            have done : badRead plan i (nth (readsL x) q) → lookR plan (planLp plan (k + 1) i) = (.tp [(false, [.pv (.sl false 1 [])]), (false, [.pv (.sc (.int .i64 3))])], [], 0) := fun hb => by
              rw [planLp, hbad _ hmem hb, if_neg (by decide), lookR_bad (by decide)]
            refine ⟨by omega, ?_⟩
            rw [hw1, wsucc (by omega)]
            refine if_go (fun h1 => ?_) (fun h1 => done (bad1 (by omega)))
            refine if_go (fun h2 => ?_) (fun h2 => done (bad1 (by omega)))
            refine ⟨by omega, if_go (fun h3 => done (bad2 h3)) (fun h3 => ?_)⟩
            refine ihh (q + 1) (by omega) (fun j hj => ?_)
            by_cases hjq : j < q
            · exact hok j hjq
            · have : j = q := by omega
              subst this
              rintro (h' | h')
              · exact h' (by omega)
              · exact h3 h'
        exact inner (readsL x).length 0 rfl (fun _ h => absurd h (by omega))
    · have e5 : nodeF plan i = 5 := by unfold nodeF; rw [hx]; rw [if_pos hop]
      have e : lookR plan (planLp plan (k + 1) i) = (.tp [(false, [.pv (.sl false 1 [])]), (false, [.pv (.sc (.int .i64 5))])], [], 0) := by rw [planLp, e5, if_neg (by decide), lookR_bad (by decide)]
      refine if_go (fun h1 => ?_) (fun h1 => e)
      rw [if_neg (by omega)]
      exact e
def sh81 : Shp := fun I i b l s => .ok (.tp [(false, [.pv (.sl false 1 (l 0))]), (false, [.pv (.sc (.int .i64 (i 0)))])], [], 0)
def an81 : An (List NodeV × Unit) where
  pre t := (okPlan t.1)
  i _ t := planF t.1
  l _ t := (tI64.encs (lookL t.1 (planF t.1)))
noncomputable def en81 : En := mkE (parsC (pL tNode) pars0) an81
attribute [simp] en81 an81
theorem ok81 (plan : List NodeV) (p0 : okPlan plan = true) : Ok0 Tryz.prog 81 [(pL tNode).enc plan] ((.tp [(false, [.pv (.sl false 1 (tI64.encs (lookL plan (planF plan))))]), (false, [.pv (.sc (.int .i64 (planF plan)))])], [], 0) : RES).1 ((.tp [(false, [.pv (.sl false 1 (tI64.encs (lookL plan (planF plan))))]), (false, [.pv (.sc (.int .i64 (planF plan)))])], [], 0) : RES).2.1 ((.tp [(false, [.pv (.sl false 1 (tI64.encs (lookL plan (planF plan))))]), (false, [.pv (.sc (.int .i64 (planF plan)))])], [], 0) : RES).2.2 := by
  refine go81 plan fun w Xs => ?_
  have h := okPlan_len p0
  show if _ then _ else lookR plan (planF plan) = _
  unfold planF
  refine if_go (fun h1 => ?_) (fun h1 => ?_)
  · refine if_go (fun h2 => ?_) (fun h2 => ?_)
    · rw [if_neg (by omega)]
      exact lm_looked plan (by omega) p0 plan.length 0 rfl (fun _ h => absurd h (by omega))
    · rw [if_pos (by omega)]
      exact lookR_bad (by decide)
  · rw [if_pos (by omega)]
    exact lookR_bad (by decide)
theorem s81 {I : Ops} (hI : I = real) {e : En} (he : e = en81) : Sound Tryz.prog 81 (callE I e sh81) := by
  refine Sound.mkE ent81 hI (fun _ => rfl) ?_ he
  rintro ⟨plan, ⟨⟩⟩ hp
  have hp : ((okPlan plan)) = true := hp
  try simp only [Bool.and_eq_true, decide_eq_true_eq] at hp
  have p0 := hp
  exact ok81 plan p0
end Go.Proofs.Tryz
