/-
  THE CALCULUS, TWELFTH TEXT: append, and make of a slice.
-/
import Derived.Test.YtafdnkachndacaaAixApp
set_option linter.unusedSimpArgs false
set_option linter.unusedVariables false
namespace Go.Aix
section
variable {P : Program} {X : Ctx} {E : Ent} {β : Nat → Nat × Nat} {O : Nat → List Nat} {S : St} {σ : Store} {next : Nat} {a : Act} {w : World} {M : Nat → Prop} {env : EnvT}

theorem RL.oneV : ∀ {ps : List PV} {vs : List Value} {A : List Nat}, RL w M ps vs A → ∀ u ∈ vs.take ps.length, Aix.oneV u = true
  | _, _, _, .nil, u, hu => by simp at hu
  | _, _, _, .cons h hr, u, hu => by
    rw [List.length_cons, List.take_succ_cons] at hu
    rcases List.mem_cons.1 hu with rfl | hu
    · exact h.oneV
    · exact RL.oneV hr u hu
theorem RLL.oneV {sz : Nat} : ∀ {es : List (List PV)} {vs : List Value} {A : List Nat}, RLL w M sz es vs A → ∀ u ∈ vs.take (es.length * sz), Aix.oneV u = true
  | _, _, _, .nil, u, hu => by simp at hu
  | _, _, _, .cons (ps := ps) (es := es) (vs := vs) hl h hr, u, hu => by
    rw [List.length_cons, show (es.length + 1) * sz = sz + es.length * sz from by rw [Nat.add_mul]; omega, List.take_add] at hu
    rcases List.mem_append.1 hu with hu | hu
    · exact h.oneV u (by rw [hl]; exact hu)
    · exact RLL.oneV hr u hu

theorem RelM.kill (h : RelM M E β O S a w) (c : Nat) : RelM M E β O (kill c S) a w := by
  refine ⟨h.mem.kill c, ?_, h.nodef⟩
  intro t av ht
  simp only [Aix.kill] at ht
  rw [lk_map (killA c)] at ht
  obtain ⟨av0, h0, rfl⟩ := Option.map_eq_some_iff.1 ht
  obtain ⟨h1, h2⟩ := h.slots t av0 h0
  exact ⟨h1, h2.kill Turn.refl (kill_env c)⟩
theorem RelM.less {M' : Nat → Prop} (h : RelM M E β O S a w) (hs : ∀ b, M' b → M b) : RelM M' E β O S a w :=
  ⟨h.mem.less hs, fun t av ht => ⟨(h.slots t av ht).1, (h.slots t av ht).2.turn (D := fun _ => False) ⟨fun _ _ _ h => h, fun _ h => h.elim, fun b hb => .inl (hs b hb)⟩ (fun _ _ h => h)⟩, h.nodef⟩
theorem kill_SM (c : Nat) (b : Nat) (h : Mof E β O (Aix.kill c S).σ b) : Mof E β O S.σ b := kill_M c b h
theorem Rel.kill (h : Rel E β O S a w) (c : Nat) : Rel E β O (Aix.kill c S) a w := (RelM.kill h c).less (kill_SM c)

theorem zeroCells_size (z : Array Value) (n : Nat) : (Builtin.zeroCells z n).size = n * z.size := by simp [Builtin.zeroCells]

theorem run_call_append {o : Oper} {c : Call} (ho : o.op = .call c) (hb : c.callee = .builtin .append) {s x : Operand} {t t' : TypeId} (ha : c.args.toList = [s, x]) (ht : c.argTypes.toList = [t, t']) {v : Value} {w' : World}
    (h : (Builtin.append_ #[t, t'] o.type #[a.eval s, a.eval x]).run P w = .ok v w') : (execOp a.eval o).run P w = .ok (.value v) w' := by
  have ha' : c.args = #[s, x] := by rw [← Array.toArray_toList (xs := c.args), ha]
  have ht' : c.argTypes = #[t, t'] := by rw [← Array.toArray_toList (xs := c.argTypes), ht]
  obtain ⟨callee, args, argTypes⟩ := c
  dsimp only at hb ha' ht'
  subst hb ha' ht'
  unfold execOp
  simp only [ho, resolve, invoke, builtin, Sem.run_bind, Sem.run_pure, Result.andThen_ok, List.map_toArray, List.map_cons, List.map_nil, h]

theorem append_step (hX : XOk P X) {o : Oper} {c : Call} (ho : o.op = .call c) (hb : c.callee = .builtin .append) {s x : Operand} {t t' : TypeId} (ha : c.args.toList = [s, x]) (ht : c.argTypes.toList = [t, t']) (h : Rel E β O S a w)
    (hd : ∀ t, o.dst = some t → t < a.tmps.size) {y y' : TyI} (hy : (sliceOf X t).val = some y) (hy' : (sliceOf X t').val = some y') {sv xv : AV} (hs : (evalO S s).val = some sv) (hx : (evalO S x).val = some xv) {pos : Bool} {S' : St} (hz0 : y.zero.length = y.size)
    (e : (appendA real S o.dst y pos sv xv).val = some S') : Stepped P E o a w S' := by
  obtain ⟨el, ti, hdt, hye, hi, hsz, hbt⟩ := sliceOf_sound hX hy
  obtain ⟨el', ti', hdt', _, _, _, _⟩ := sliceOf_sound hX hy'
  obtain ⟨i, dd, z, hi', hd', hz, hzs, _, hszi, _, _⟩ := tyOf_some (hX el y hye)
  have := hi.symm.trans hi'
  obtain rfl := Option.some.inj this
  have rs := evalO_sound h hs
  have rx := evalO_sound h hx
  generalize hsv : a.eval s = su at rs
  generalize hxv : a.eval x = xu at rx
  unfold appendA at e
  rw [val_do] at e
  obtain ⟨⟨new, m, S2⟩, e1, e⟩ := some_bind e
  obtain ⟨O2, news, On, h2, hM, hE, l1, l2, hR, hnd, hdj, hown, hlen, hfirst, hnext, hOnM⟩ := takeEs_sound h rx e1
  have hone : ∀ u ∈ news, oneV u = true := by
    intro u hu
    exact hR.oneV u (by rw [l1, ← l2, List.take_length]; exact hu)
  dsimp only at e
  have roomB : ∀ n, real.nle n (140737488355328 / y.bytes) = true → n * ti.bytes ≤ 140737488355328 ∧ n ≤ 140737488355328 := by
    intro n hn
    have hn : n ≤ 140737488355328 / y.bytes := by simpa [real] using hn
    rw [← hbt] at hn
    constructor
    · exact Nat.le_trans (Nat.mul_le_mul_right _ hn) (Nat.div_mul_le_self _ _)
    · exact Nat.le_trans hn (Nat.div_le_self _ _)
  have hzl : z.cells.size = y.size := by
    have := (cellsOf_sound (w := w) (M := Mof E β O S.σ) (env := envOf β S.σ) hzs).length
    simp at this; omega
  -- a new row from nothing
  have fresh0 : su = .slice none 0 0 → 1 ≤ m → (m * ti.bytes ≤ 140737488355328 ∧ m ≤ 140737488355328) → Stepped P E o a w (newRow S2 o.dst y.size new m) := by
    intro hsu hm hB
    have hrun := run_append_new (P := P) (w := w) (ty := o.type) hdt hdt' hi hz (base := none) (sLen := 0) (sCap := 0) (x := xu) (n := m) (olds := #[]) (news := news.toArray) (fun w => hlen P w) (by rw [hsz]; exact hfirst P _ rfl) (by simp [Builtin.firstCells]) (by omega)
      (by rw [Nat.zero_add]; exact hB.1) (by omega)
    rw [Nat.zero_add] at hrun
    have hge := grownCap_ge w m 0 el
    generalize grownCap w m 0 el = cap at hrun hge
    have hrow := h2.drew.newRow hM (S := S2) (d := o.dst) (t := el) (sz := y.size) (n := m) (cap := cap) (es := new) (vs := (#[] ++ news.toArray ++ Builtin.zeroCells z.cells (cap - m))) (Oc := On) hd
      (by
        have t : Turn w w.drew (Mof E β O S.σ) (Mof E β O S.σ) (fun _ => False) := ⟨fun _ _ _ h => h, fun _ h => h.elim, fun b hb => .inl hb⟩
        refine (hR.turn t (fun _ _ h => h)).pre _ ?_
        rw [l1, Array.toList_append, Array.toList_append]
        simp [← l2])
      hOnM hnd hdj hown (by omega) (by omega) (by
        rw [Array.size_append, Array.size_append, zeroCells_size, hzl, List.size_toArray, List.size_toArray, l2, Nat.sub_mul]
        have : m * y.size ≤ cap * y.size := Nat.mul_le_mul_right _ hge
        simp; omega)
    exact ⟨_, _, _, _, run_call_append ho hb ha ht (by rw [hsv, hxv, hsu]; exact hrun), .inl ⟨_, rfl, hrow⟩⟩
  split at e
  · -- nothing yet
    cases rs with
    | one rs => cases rs with
      | pv rs =>
        cases rs
        have hfr : ∀ S', (demand (roomOf real y m) >>= fun _ => R.ok (newRow S2 o.dst y.size new m)).val = some S' → 1 ≤ m → Stepped P E o a w S' := by
          intro S' e hm
          rw [val_demand] at e
          split at e
          · rename_i hB
            simp only [val_ok, Option.some.injEq] at e
            subst e
            exact fresh0 rfl hm (roomB m hB)
          · cases e
        split at e
        · rw [val_demand] at e
          split at e
          · rename_i hm
            exact hfr _ e (by simpa [real] using hm)
          · cases e
        · rw [val_ask] at e
          split at e
          · rename_i hm
            exact hfr _ e (by simpa [real] using hm)
          · rename_i hm
            have hm0 : m = 0 := by
              have : ¬ 1 ≤ m := by simpa [real] using hm
              omega
            subst hm0
            simp only [val_ok, Option.some.injEq] at e
            subst e
            have hn0 : news = [] := List.length_eq_zero_iff.1 (by rw [l2]; simp)
            subst hn0
            have hrun := run_append_room (P := P) (w := w) (w' := w) (ty := o.type) hdt hdt' hi (base := none) (sLen := 0) (sCap := 0) (x := xu) (n := 0) (news := #[]) (fun w => hlen P w) (by rw [hsz]; exact hfirst P _ rfl) (by omega) rfl
            refine ⟨_, _, _, _, run_call_append ho hb ha ht (by rw [hsv, hxv]; exact hrun), .inl ⟨_, rfl, Rel.setDst (h2.less hM) hd (.one (.pv .nl))⟩⟩
  · -- a row of the call's own
    rename_i c n e0
    clear e0
    split at e
    · rename_i sz es hlk
      split at e
      · rename_i hbz
        obtain rfl := beq_eq hbz
        rw [val_demand] at e
        split at e
        · rename_i hn
          have hn : n = es.length := by simpa [real] using hn
          rw [val_demand] at e
          split at e
          · rename_i hB
            simp only [val_ok, Option.some.injEq] at e
            subst e
            have hB := roomB _ hB
            simp only [real] at hB
            cases rs with
            | one rs => cases rs with
              | arr he hm hnc hc =>
                rename_i b off sz m0 N cap
                rw [← hE] at he
                obtain ⟨ch, hc', hbb, hs', hcn, hN⟩ := envOf_some he
                rw [hlk] at hc'
                obtain rfl := Option.some.inj hc'
                simp only [Chunk.sz] at hs'
                simp only [Chunk.cnt] at hcn
                have hcr := h2.mem.chunk c _ hlk
                have hndc := h2.mem.nodup c _ hlk
                have hownc := h2.mem.own c _ hlk
                have hdjc := hdj c _ hlk
                generalize hO : O2 c = Oc at hcr hndc hownc hdjc
                cases hcr with
                | row hb' hN' hRc =>
                  rename_i vs ty
                  have hle := hRc.le
                  have hvs : vs.toList.length = vs.size := by simp
                  have hnewO : (Oc ++ On).Nodup := by
                    rw [List.nodup_append]
                    refine ⟨(List.nodup_cons.1 hndc).2, hnd, ?_⟩
                    intro x hx y hy e
                    exact hdjc y hy (List.mem_cons_of_mem _ (e ▸ hx))
                  have hownO : ∀ b ∈ Oc ++ On, ¬ E.X b ∧ (E.Z b ∨ E.w0.heap.size ≤ b) := by
                    intro x hx
                    rcases List.mem_append.1 hx with hx | hx
                    · exact hownc x (List.mem_cons_of_mem _ hx)
                    · exact hown x hx
                  have hdjO : ∀ d x, d ≠ c → lk d S2.σ = some x → ∀ b ∈ Oc ++ On, b ∉ (β d).1 :: O2 d := by
                    intro d x hdc hdx y hy
                    rcases List.mem_append.1 hy with hy | hy
                    · exact h2.mem.disj c d _ x hlk hdx (Ne.symm hdc) y (by rw [hO]; exact List.mem_cons_of_mem _ hy)
                    · exact hdj d x hdx y hy
                  have hR2 : RLL w (Mof E β O S.σ) y.size new news On := hR
                  have hOM : ∀ b ∈ Oc ++ On, Mof E β O S.σ b := by
                    intro x hx
                    rcases List.mem_append.1 hx with hx | hx
                    · exact hM x (.inr ⟨c, _, hlk, List.mem_cons_of_mem _ (by rw [hO]; exact hx)⟩)
                    · exact hOnM x hx
                  by_cases hroom : n + m ≤ cap
                  · -- where it lies
                    have hst : ∃ vs' : Array Value, (storeCells ((⟨b, off, none⟩ : Addr).add (n * ti.size)) news.toArray.toList).run P w = .ok () (World.setRow w (β c).1 vs' ty) ∧ vs'.size = vs.size ∧
                        RLL w (Mof E β O S.σ) y.size (es ++ new) vs'.toList (Oc ++ On) := by
                      rcases hc with hc0 | ⟨hoff, hc1⟩
                      · have hn0 : n = 0 := by omega
                        have hm0 : m = 0 := by omega
                        have he0 : es = [] := List.length_eq_zero_iff.1 (by omega)
                        have hnw : new = [] := List.length_eq_zero_iff.1 (by omega)
                        have hnn : news = [] := List.length_eq_zero_iff.1 (by rw [l2, hm0]; simp)
                        subst he0 hnw hnn
                        cases hRc
                        cases hR2
                        refine ⟨vs, ?_, rfl, by simpa using .nil⟩
                        rw [setRow_same hb']
                        rfl
                      · have hoff : off = 0 := by simpa using hoff
                        subst hoff
                        have hmul : (n + m) * y.size ≤ cap * y.size := Nat.mul_le_mul_right _ hroom
                        rw [Nat.add_mul] at hmul
                        have hfit : n * y.size + news.length ≤ vs.toList.length := by
                          rw [l2, hvs, hN', hN, ← hs'] at *
                          omega
                        have hrunS := run_storeCells P (β c).1 (n * y.size) ty news 0 w vs hb' (by simpa using hfit) hone
                        refine ⟨(over vs.toList (n * y.size) news).toArray, ?_, ?_, ?_⟩
                        · rw [addr_add, ← hbb, hsz, Nat.zero_add]
                          simpa using hrunS
                        · have := over_length (vs := vs.toList) (us := news) (off := n * y.size) hfit
                          simpa using this
                        · refine RLL.append (hRc.pre _ ?_) (hR2.pre _ ?_)
                          · rw [← hn]
                            exact over_take (by omega)
                          · rw [← hn, l1]
                            show ((over vs.toList (n * y.size) news).drop (n * y.size)).take (m * y.size) = news.take (m * y.size)
                            rw [over_drop (by omega), ← l2, List.take_left, List.take_length]
                    obtain ⟨vs', hrunS, hvs', hRR⟩ := hst
                    have hrun := run_append_room (P := P) (w := w) (w' := World.setRow w (β c).1 vs' ty) (ty := o.type) hdt hdt' hi (base := some ⟨b, off, none⟩) (sLen := n) (sCap := cap) (x := xu) (n := m) (news := news.toArray) (fun w => hlen P w) (by rw [hsz]; exact hfirst P _ rfl) hroom hrunS
                    have hgr := h2.regrow hM (d := o.dst) hd hlk (sz := y.size) (n := n + m) (cap := cap) (off := off) (es := es ++ new) (vs := vs') (t := ty) (Ok := Oc ++ On) (by rw [hvs']; exact hN') hOM hRR
                      (by
                        rw [List.nodup_cons]
                        refine ⟨?_, hnewO⟩
                        intro hx
                        rcases List.mem_append.1 hx with hx | hx
                        · exact (List.nodup_cons.1 hndc).1 hx
                        · exact hdjc _ hx List.mem_cons_self)
                      hdjO hownO (by rw [List.length_append]; omega) hroom (by
                        rcases hc with hc0 | ⟨hoff, hc1⟩
                        · exact .inl hc0
                        · exact .inr ⟨by simpa using hoff, by rw [hvs', hN', hN, hs']; simpa using hc1⟩)
                    rw [hbb] at hgr hrun
                    exact ⟨_, _, _, _, run_call_append ho hb ha ht (by rw [hsv, hxv]; exact hrun), .inl ⟨_, rfl, hgr⟩⟩
                  · -- elsewhere
                    have holds : (Builtin.firstCells ti.size n (.slice (some ⟨b, off, none⟩) n cap)).run P w.drew = .ok (vs.toList.take (n * y.size)).toArray w.drew := by
                      simp only [Builtin.firstCells]
                      rw [hsz]
                      rcases hc with hc0 | ⟨hoff, hc1⟩
                      · have hn0 : n = 0 := by omega
                        rw [hn0]
                        simp [loadCells, loadCellsFrom]
                      · have hoff : off = 0 := by simpa using hoff
                        subst hoff
                        have hblk : blk w.drew b = some vs.toList := by rw [← hbb]; exact blk_some hb'
                        have := run_loadCells P hblk 0 (n * y.size) (by rw [Nat.zero_add, hn]; exact hle)
                        simpa using this
                    have hrun := run_append_new (P := P) (w := w) (ty := o.type) hdt hdt' hi hz (base := some ⟨b, off, none⟩) (sLen := n) (sCap := cap) (x := xu) (n := m) (olds := (vs.toList.take (n * y.size)).toArray) (news := news.toArray) (fun w => hlen P w) (by rw [hsz]; exact hfirst P _ rfl) holds (by omega)
                      hB.1 hB.2
                    have hge := grownCap_ge w (n + m) cap el
                    generalize grownCap w (n + m) cap el = cap' at hrun hge
                    have htl : (vs.toList.take (n * y.size)).length = n * y.size := by rw [List.length_take]; rw [← hn] at hle; omega
                    have hrow := (h2.kill c).drew.newRow (fun b hb => hM b (kill_SM c b hb)) (S := kill c S2) (d := o.dst) (t := el) (sz := y.size) (n := n + m) (cap := cap') (es := es ++ new) (vs := ((vs.toList.take (n * y.size)).toArray ++ news.toArray ++ Builtin.zeroCells z.cells (cap' - (n + m)))) (Oc := Oc ++ On) hd
                      (by
                        have t : Turn w w.drew (Mof E β O S.σ) (Mof E β O S.σ) (fun _ => False) := ⟨fun _ _ _ h => h, fun _ h => h.elim, fun b hb => .inl hb⟩
                        refine RLL.append ((hRc.turn t (fun _ _ h => h)).pre _ ?_) ((hR2.turn t (fun _ _ h => h)).pre _ ?_)
                        · rw [← hn, Array.toList_append, Array.toList_append, List.append_assoc, List.take_append_of_le_length (by rw [List.toList_toArray, htl]; exact Nat.le_refl _)]
                          rw [List.toList_toArray, List.take_take, Nat.min_self]
                        · rw [← hn, l1, Array.toList_append, Array.toList_append, List.append_assoc, List.toList_toArray, List.drop_append_of_le_length (by rw [htl]; exact Nat.le_refl _), List.drop_of_length_le (by rw [htl]; exact Nat.le_refl _), List.nil_append, ← l2, List.toList_toArray, List.take_left, List.take_length])
                      hOM hnewO (by
                        intro d x hdx y hy
                        simp only [kill, kill_lk] at hdx
                        by_cases hdc : d = c
                        · rw [if_pos hdc] at hdx; cases hdx
                        · rw [if_neg hdc] at hdx
                          obtain ⟨u, hu, _⟩ := Option.map_eq_some_iff.1 hdx
                          exact hdjO d u hdc hu y hy)
                      hownO (by rw [List.length_append]; omega) (by omega) (by
                        rw [Array.size_append, Array.size_append, zeroCells_size, hzl, List.size_toArray, List.size_toArray, htl, l2, ← Nat.add_mul, ← Nat.add_mul, Nat.add_sub_of_le hge]
                        exact Nat.le_refl _)
                    exact ⟨_, _, _, _, run_call_append ho hb ha ht (by rw [hsv, hxv]; exact hrun), .inl ⟨_, rfl, hrow⟩⟩
          · cases e
        · cases e
      · simp [val_stuck] at e
    · simp [val_stuck] at e
  · simp [val_stuck] at e
end
end Go.Aix
