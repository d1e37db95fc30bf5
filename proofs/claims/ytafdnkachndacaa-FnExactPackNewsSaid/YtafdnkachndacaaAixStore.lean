/-
  THE CALCULUS, TENTH TEXT: stores, arrays of zeros, appends.
-/
import Derived.Test.YtafdnkachndacaaAixNew
set_option linter.unusedSimpArgs false
set_option linter.unusedVariables false
namespace Go.Aix
section
variable {P : Program} {X : Ctx} {E : Ent} {β : Nat → Nat × Nat} {O : Nat → List Nat} {S : St} {a : Act} {w : World} {M : Nat → Prop} {env : EnvT}

theorem over_take {vs us : List Value} {off : Nat} (h : off ≤ vs.length) : (over vs off us).take off = vs.take off := by
  unfold over
  rw [List.append_assoc, List.take_append_of_le_length (by simp; omega), List.take_take, Nat.min_self]
theorem over_drop {vs us : List Value} {off : Nat} (h : off ≤ vs.length) : (over vs off us).drop off = us ++ vs.drop (off + us.length) := by
  unfold over
  rw [List.append_assoc, List.drop_append, List.length_take, Nat.min_eq_left h, Nat.sub_self, List.drop_zero, List.drop_of_length_le (by simp; omega)]
  simp
theorem over_drop2 {vs us : List Value} {off n : Nat} (h : off ≤ vs.length) (hn : off + us.length ≤ n) : (over vs off us).drop n = vs.drop n := by
  rw [show n = off + (n - off) from by omega, ← List.drop_drop, over_drop h, List.drop_append, List.drop_of_length_le (by omega), List.nil_append, List.drop_drop]
  congr 1
  omega
theorem RL.append {ps qs : List PV} {vs us : List Value} {A B : List Nat} : RL w M ps vs A → ps.length = vs.length → RL w M qs us B → RL w M (ps ++ qs) (vs ++ us) (A ++ B)
  | .nil, hl, h => by
    have : vs = [] := List.length_eq_zero_iff.1 hl.symm
    subst this
    exact h
  | .cons (O1 := O1) h hr, hl, h' => by
    rw [List.append_assoc]
    exact .cons h (RL.append hr (by simpa using hl) h')
theorem RL.pre0 {ps : List PV} {vs us : List Value} {A : List Nat} (h : RL w M ps vs A) (hl : ps.length ≤ vs.length) : RL w M ps (vs ++ us) A :=
  h.pre _ (by rw [List.take_append_of_le_length hl])

/-- What a store makes of the world. -/
theorem run_storeVar {t : TypeId} {i : TypeInfo} {b off : Nat} {vs : Array Value} {ty : TypeId} {v : Value} (hi : P.info? t = some i) (hb : w.heap[b]? = some (.cells vs ty (0, 0))) (hsz : v.cells.size = i.size) (hle : off + v.cells.size ≤ vs.size)
    (h1 : ∀ u ∈ v.cells.toList, oneV u = true) : (storeVar t ⟨b, off, none⟩ v).run P w = .ok () (World.setRow w b (over vs.toList off v.cells.toList).toArray ty) := by
  unfold storeVar
  simp only [Sem.run_bind, run_size hi, Result.andThen_ok]
  rw [if_neg (by omega)]
  have := run_storeCells P b off ty v.cells.toList 0 w vs hb (by simpa using hle) h1
  simpa using this

theorem putSlots (h : RelM M E β O S a w) (hM : ∀ b, Mof E β O S.σ b → M b) {k : Nat} {ch ch' : Chunk} (hk : lk k S.σ = some ch) (hs : ch'.sz = ch.sz) (hcn : ch'.cnt = ch.cnt) {vs : Array Value} {t : TypeId} {Ok : List Nat} (hOk : ∀ b ∈ Ok, M b)
    (hm : Mem E β (upd O k Ok) (put k ch' S.σ) S.next (World.setRow w (β k).1 vs t)) : Rel E β (upd O k Ok) ⟨S.T, put k ch' S.σ, S.next⟩ a (World.setRow w (β k).1 vs t) := by
  refine ⟨hm, ?_, h.nodef⟩
  intro q av hq
  obtain ⟨h1, h2⟩ := h.slots q av hq
  exact ⟨h1, h2.turn (put_turn hM hk hOk) (put_env hk hs hcn)⟩

theorem storeA_sound (h : Rel E β O S a w) {av : AV} {cs : List Cell} {u v : Value} {t : TypeId} {i : TypeInfo} (hi : P.info? t = some i) (hsz : cs.length = i.size) (ha : RAV w (Mof E β O S.σ) (envOf β S.σ) av u) (hv : RCs w (Mof E β O S.σ) (envOf β S.σ) cs v.cells.toList)
    {S' : St} (e : (storeA real S av cs).val = some S') : ∃ w' O', (Instr.storeAt t u v).run P w = .ok () w' ∧ Rel E β O' S' a w' := by
  have hvl := hv.length
  have hv1 := hv.oneV
  have run : ∀ b off vs ty, u = .pointer (some ⟨b, off, none⟩) → w.heap[b]? = some (.cells vs ty (0, 0)) → off + cs.length ≤ vs.size → (Instr.storeAt t u v).run P w = .ok () (World.setRow w b (over vs.toList off v.cells.toList).toArray ty) := by
    intro b off vs ty hu hb hle
    subst hu
    unfold Instr.storeAt Instr.sureAddr
    rw [Sem.run_bind, Sem.run_pure, Result.andThen_ok]
    simp at hvl
    exact run_storeVar hi hb (by omega) (by omega) hv1
  unfold storeA at e
  split at e
  · rename_i c i' j
    cases ha with
    | one ha => cases ha with
      | ptr he hlt =>
        rename_i b sz n N
        obtain ⟨ch, hc, hb, hs, hn, hN⟩ := envOf_some he
        split at e
        · rename_i bs hlk
          split at e
          · rename_i hble
            have hble := Nat.le_of_ble_eq_true hble
            rw [hlk] at hc
            obtain rfl := Option.some.inj hc
            simp only [val_ok, Option.some.injEq] at e
            subst e
            have hcr := h.mem.chunk c _ hlk
            have hnd := h.mem.nodup c _ hlk
            generalize hO : O c = Oc at hcr hnd
            cases hcr with
            | box hb' hN' hR =>
              rename_i vs ty
              have hi0 : i' = 0 := by simp [Chunk.cnt] at hn; omega
              subst hi0
              have hl := hR.length
              simp at hl
              have hset : (setAt bs j cs).length = bs.length := by rw [setAt_eq (by omega)]; simp; omega
              have hover : (over vs.toList j v.cells.toList).toArray.size = vs.size := by
                have := over_length (vs := vs.toList) (us := v.cells.toList) (off := j) (by simp at hvl ⊢; omega)
                simpa using this
              have hlt' : (β c).1 < w.heap.size := blk_lt (blk_some hb')
              refine ⟨_, upd O c [], run b (0 * sz + j) vs ty rfl (by rw [← hb]; exact hb') (by omega), ?_⟩
              have e0 : 0 * sz + j = j := by omega
              rw [e0, ← hb]
              refine putSlots (ch' := .box (setAt bs j cs)) h (fun _ h => h) hlk (by simp [Chunk.sz, hset]) rfl (Ok := []) (fun _ hx => nomatch hx) (h.mem.put (fun _ h => h) (ch' := .box (setAt bs j cs)) (Ok := []) hlk (by simp [Chunk.sz, hset]) rfl (by rw [hover]; exact hN') (fun _ hx => nomatch hx) ?_ ?_ (fun _ _ _ _ _ hx => nomatch hx) (fun _ hx => nomatch hx))
              · refine .box (setRow_self hlt') (by rw [hover]; exact hN') ?_
                have := (hR.setAt hv (by omega)).turn (put_turn (E := E) (O := O) (w := w) (β := β) (σ := S.σ) (M := Mof E β O S.σ) (fun _ h => h) (ch' := .box (setAt bs j cs)) (vs := (over vs.toList j v.cells.toList).toArray) (t := ty) hlk (Ok := []) (fun _ hx => nomatch hx)) (put_env (β := β) (ch' := .box (setAt bs j cs)) hlk (by simp [Chunk.sz, hset]) rfl)
                simpa using this
              · simp
          · simp [val_stuck] at e
        · rename_i sz0 es0 hlk0
          rw [val_do] at e
          obtain ⟨⟨ps, S1⟩, e1, e⟩ := some_bind e
          obtain ⟨Op, g1, g2, g2', g3, g4, g5, g6, g7, g8⟩ := freezes_sound h (fun _ _ h => h) hv e1
          simp only at e
          split at e
          · rename_i sz1 es hlk
            split at e
            · rename_i hble
              have hble := Nat.le_of_ble_eq_true hble
              simp only [val_ok, Option.some.injEq] at e
              subst e
              -- the chunk stands as it stood
              have henv : envOf β S1.σ c = some ((β c).1, sz1, es.length, (β c).2) := by unfold envOf; rw [hlk]; rfl
              have he2 := g7 _ _ henv
              rw [he] at he2
              simp only [Option.some.injEq, Prod.mk.injEq] at he2
              obtain ⟨hb1, rfl, rfl, hN1⟩ := he2
              have hcr := g1.mem.chunk c _ hlk
              have hnd := g1.mem.nodup c _ hlk
              have hown := g1.mem.own c _ hlk
              generalize hO : O c = Oc at hcr hnd
              cases hcr with
              | row hb' hN' hR =>
                rename_i vs ty
                have hge : es[i']? = some es[i'] := List.getElem?_eq_getElem hlt
                have hels : (List.range sz).map (fun q => real.nth es i' q) = es[i'] := by
                  have hl := (hR.get i' _ hge).1
                  apply List.ext_getElem
                  · simp [hl]
                  · intro q h1 h2
                    simp only [List.getElem_map, List.getElem_range]
                    show ((es[i']?.getD [])[q]?).getD _ = _
                    rw [hge]
                    simp [List.getElem?_eq_getElem h2]
                obtain ⟨A, B, C, hABC, hRi, hl, hupd⟩ := RLL.upd i' hR _ hge
                have hle := hR.le
                simp at hle
                have hmul : (i' + 1) * sz ≤ es.length * sz := Nat.mul_le_mul_right _ hlt
                rw [Nat.add_mul, Nat.one_mul] at hmul
                have hvl' : ps.length = v.cells.toList.length := g2'
                obtain ⟨B1, B', hB, hq1, hq2⟩ := hRi.split j
                obtain ⟨B2, B3, hB', hq3, hq4⟩ := hq2.split ps.length
                have hvs : vs.size = vs.toList.length := by simp
                have hov : (over vs.toList (i' * sz + j) v.cells.toList).length = vs.toList.length := over_length (by omega)
                have hoff : i' * sz + j ≤ vs.toList.length := by omega
                -- the element as it is now
                have hnew : RL w (Mof E β O S.σ) (setAt es[i'] j ps) ((over vs.toList (i' * sz + j) v.cells.toList).drop (i' * sz)) (B1 ++ Op ++ B3) := by
                  rw [setAt_eq (by omega)]
                  have e2 : (over vs.toList (i' * sz + j) v.cells.toList).drop (i' * sz) = (vs.toList.drop (i' * sz)).take j ++ v.cells.toList ++ (vs.toList.drop (i' * sz)).drop (j + v.cells.toList.length) := by
                    unfold over
                    rw [List.drop_append, List.drop_append]
                    have l1 : (vs.toList.take (i' * sz + j)).length = i' * sz + j := by rw [List.length_take]; omega
                    rw [l1, show i' * sz - (i' * sz + j) = 0 from by omega, List.drop_zero, List.drop_take, show i' * sz + j - i' * sz = j from by omega]
                    rw [List.length_append, l1, show i' * sz - (i' * sz + j + v.cells.toList.length) = 0 from by omega, List.drop_zero, List.drop_drop]
                    rw [show i' * sz + j + v.cells.toList.length = i' * sz + (j + v.cells.toList.length) from by omega]
                  rw [e2]
                  refine RL.append (RL.append (hq1.pre _ ?_) ?_ g2) ?_ ?_
                  · rw [List.length_take, Nat.min_eq_left (by omega), List.take_take, Nat.min_self]
                  · rw [List.length_take, List.length_take, List.length_drop]; omega
                  · rw [List.length_append, List.length_append, List.length_take, List.length_take, List.length_drop]; omega
                  · rw [List.drop_drop] at hq4
                    rw [← hvl']
                    simp only [List.drop_drop, Nat.add_assoc] at hq4 ⊢
                    exact hq4
                have hset := hupd (setAt es[i'] j ps) (over vs.toList (i' * sz + j) v.cells.toList) (B1 ++ Op ++ B3)
                  (by rw [setAt_eq (by omega), List.length_append, List.length_append, List.length_take, List.length_drop]; omega)
                  (by
                    have := congrArg (List.take (i' * sz)) (over_take (vs := vs.toList) (us := v.cells.toList) hoff)
                    simpa [List.take_take, Nat.min_eq_left (Nat.le_add_right (i' * sz) j)] using this)
                  hnew (over_drop2 hoff (by rw [Nat.add_mul, Nat.one_mul, ← hvl']; omega)) (by rw [hov]; omega)
                obtain ⟨d1, d2, d3⟩ := given h g4 g5
                have hopc := d1 c _ hlk
                rw [hO] at hopc
                have hopn : (β c).1 ∉ Op := fun hm => hopc _ hm List.mem_cons_self
                have hopo : ∀ b ∈ Op, b ∉ Oc := fun b hm hb => hopc b hm (List.mem_cons_of_mem _ hb)
                have hsub : ∀ x ∈ A ++ (B1 ++ Op ++ B3) ++ C, x ∈ Oc ∨ x ∈ Op := by
                  intro x hx
                  rw [hABC, hB, hB']
                  simp only [List.mem_append] at hx ⊢
                  grind
                have hnd' : ((β c).1 :: (A ++ (B1 ++ Op ++ B3) ++ C)).Nodup := by
                  rw [hABC, hB, hB'] at hnd hopo
                  clear hupd hset hsub d1 d2 hopc g1 g2 g4 g5 g6 g7 g8 hnew hR hRi hq1 hq2 hq3 hq4 hABC hB hB' run
                  simp only [List.nodup_append, List.mem_append, List.nodup_cons] at *
                  grind
                have hlt' : (β c).1 < w.heap.size := blk_lt (blk_some hb')
                have hOkM : ∀ x ∈ A ++ (B1 ++ Op ++ B3) ++ C, Mof E β O S.σ x := by
                  intro x hx
                  rcases hsub x hx with hx | hx
                  · exact g6 x (.inr ⟨c, _, hlk, List.mem_cons_of_mem _ (by rw [hO]; exact hx)⟩)
                  · exact d3 x hx
                refine ⟨_, upd O c (A ++ (B1 ++ Op ++ B3) ++ C), run b (i' * sz + j) vs ty rfl (by rw [hb1]; exact hb') (by omega), ?_⟩
                rw [hb1]
                refine putSlots (S := S1) (ch' := .row sz (real.set es i' (setAt ((List.range sz).map fun q => real.nth es i' q) j ps))) g1 g6 hlk rfl ?_ (Ok := A ++ (B1 ++ Op ++ B3) ++ C) hOkM (g1.mem.put g6 (ch' := .row sz (real.set es i' (setAt ((List.range sz).map fun q => real.nth es i' q) j ps))) hlk rfl ?_ ?_ hOkM ?_ hnd' ?_ ?_)
                · show (es.set i' _).length = es.length
                  simp
                · show (es.set i' _).length = es.length
                  simp
                · rw [List.size_toArray, hov, ← hvs]; exact hN'
                · rw [hels]
                  refine .row (setRow_self hlt') (by rw [List.size_toArray, hov, ← hvs]; exact hN') ?_
                  have := hset.turn (put_turn (E := E) (O := O) (w := w) (β := β) (σ := S1.σ) (M := Mof E β O S.σ) g6 (ch' := .row sz (es.set i' (setAt es[i'] j ps))) (vs := (over vs.toList (i' * sz + j) v.cells.toList).toArray) (t := ty) hlk hOkM) (fun x hx => by
                    have := (List.nodup_cons.1 hnd').1
                    exact fun e => this (e ▸ hx))
                  exact this
                · intro d x hd hdx y hy
                  rcases hsub y hy with hy | hy
                  · exact g1.mem.disj c d _ x hlk hdx (Ne.symm hd) y (by rw [hO]; exact List.mem_cons_of_mem _ hy)
                  · exact d1 d x hdx y hy
                · intro y hy
                  rcases hsub y hy with hy | hy
                  · exact hown y (by rw [hO]; exact List.mem_cons_of_mem _ hy)
                  · exact d2 y hy
            · simp [val_stuck] at e
          · simp [val_stuck] at e
        · rename_i sz2 es2 i2 bs hlk
          split at e
          · rename_i hble
            have hble := Nat.le_of_ble_eq_true hble
            rw [hlk] at hc
            obtain rfl := Option.some.inj hc
            simp only [R.val] at e
            split at e
            · rename_i hii
              have hii : i' = i2 := of_decide_eq_true hii
              subst hii
              obtain rfl := Option.some.inj e
              simp only [Chunk.sz] at hs
              subst hs
              have hcr := h.mem.chunk c _ hlk
              have hnd := h.mem.nodup c _ hlk
              generalize hO : O c = Oc at hcr hnd
              cases hcr with
              | foc hb' hN' hi' hl' g1 g2 g3 =>
                rename_i vs ty A C
                have hgl := g2.length
                rw [List.length_take, List.length_drop] at hgl
                have hcl : v.cells.toList.length = cs.length := hvl.symm
                have hfit : i' * sz2 + sz2 ≤ vs.toList.length ∨ sz2 = 0 := by
                  by_cases hz : sz2 = 0
                  · exact .inr hz
                  · generalize i' * sz2 = X at *
                    exact .inl (by omega)
                have hle : i' * sz2 + j + v.cells.toList.length ≤ vs.toList.length ∧ i' * sz2 ≤ vs.toList.length := by
                  rcases hfit with hf | hz
                  · constructor <;> omega
                  · subst hz
                    simp only [Nat.mul_zero]
                    constructor <;> omega
                have hset : (setAt bs j cs).length = bs.length := by rw [setAt_eq (by omega)]; simp; omega
                have hover : (over vs.toList (i' * sz2 + j) v.cells.toList).length = vs.toList.length := over_length hle.1
                have hovs : (over vs.toList (i' * sz2 + j) v.cells.toList).toArray.size = vs.size := by simpa using hover
                have hlt' : (β c).1 < w.heap.size := blk_lt (blk_some hb')
                have e2 : (over vs.toList (i' * sz2 + j) v.cells.toList).drop (i' * sz2) = (vs.toList.drop (i' * sz2)).take j ++ v.cells.toList ++ (vs.toList.drop (i' * sz2)).drop (j + v.cells.toList.length) := by
                  unfold over
                  rw [List.drop_append, List.drop_append]
                  have l1 : (vs.toList.take (i' * sz2 + j)).length = i' * sz2 + j := by rw [List.length_take]; omega
                  rw [l1, show i' * sz2 - (i' * sz2 + j) = 0 from by omega, List.drop_zero, List.drop_take, show i' * sz2 + j - i' * sz2 = j from by omega]
                  rw [List.length_append, l1, show i' * sz2 - (i' * sz2 + j + v.cells.toList.length) = 0 from by omega, List.drop_zero, List.drop_drop]
                  rw [show i' * sz2 + j + v.cells.toList.length = i' * sz2 + (j + v.cells.toList.length) from by omega]
                have e3 : ((over vs.toList (i' * sz2 + j) v.cells.toList).drop (i' * sz2)).take sz2 = over ((vs.toList.drop (i' * sz2)).take sz2) j v.cells.toList := by
                  rw [e2]
                  unfold over
                  rw [List.take_append, List.take_append, List.length_append, List.length_take, List.length_drop, List.take_take, List.take_take, List.drop_take]
                  have q1 : min j (vs.toList.length - i' * sz2) = j := by omega
                  rw [q1]
                  congr 2
                  · congr 1; omega
                  · exact List.take_of_length_le (by omega)
                have hOkM : ∀ x ∈ A ++ C, Mof E β O S.σ x := fun x hx => .inr ⟨c, _, hlk, List.mem_cons_of_mem _ (by rw [hO]; exact hx)⟩
                have hT := put_turn (E := E) (O := O) (w := w) (β := β) (σ := S.σ) (M := Mof E β O S.σ) (fun _ h => h) (ch' := .foc sz2 es2 i' (setAt bs j cs)) (vs := (over vs.toList (i' * sz2 + j) v.cells.toList).toArray) (t := ty) hlk hOkM
                have hnO : ∀ x ∈ A ++ C, ¬ x = (β c).1 := fun x hx e => (List.nodup_cons.1 hnd).1 (e ▸ hx)
                refine ⟨_, upd O c (A ++ C), run b (i' * sz2 + j) vs ty rfl (by rw [← hb]; exact hb') (by simpa [hcl] using hle.1), ?_⟩
                rw [← hb]
                refine putSlots (ch' := .foc sz2 es2 i' (setAt bs j cs)) h (fun _ h => h) hlk rfl rfl (Ok := A ++ C) hOkM (h.mem.put (fun _ h => h) (ch' := .foc sz2 es2 i' (setAt bs j cs)) (Ok := A ++ C) hlk rfl rfl (by rw [hovs]; exact hN') hOkM ?_ hnd ?_ ?_)
                · refine .foc (setRow_self hlt') (by rw [hovs]; exact hN') hi' (by rw [hset]; exact hl') ?_ ?_ ?_
                  · refine (g1.turn hT (fun x hx => hnO x (List.mem_append_left _ hx))).pre _ ?_
                    rw [List.length_take, Nat.min_eq_left (by omega)]
                    have := congrArg (List.take (i' * sz2)) (over_take (vs := vs.toList) (us := v.cells.toList) (off := i' * sz2 + j) (by omega))
                    simpa [List.take_take, Nat.min_eq_left (Nat.le_add_right (i' * sz2) j)] using this
                  · have := (g2.setAt hv (by omega)).turn hT (put_env (β := β) (ch' := .foc sz2 es2 i' (setAt bs j cs)) hlk rfl rfl)
                    rw [← e3] at this
                    exact this
                  · have e4 : (over vs.toList (i' * sz2 + j) v.cells.toList).drop ((i' + 1) * sz2) = vs.toList.drop ((i' + 1) * sz2) := over_drop2 (by omega) (by rw [Nat.add_mul, Nat.one_mul]; omega)
                    have := g3.turn hT (fun x hx => hnO x (List.mem_append_right _ hx))
                    rw [← e4] at this
                    exact this
                · intro d x hd hdx y hy
                  exact h.mem.disj c d _ x hlk hdx (Ne.symm hd) y (by rw [hO]; exact List.mem_cons_of_mem _ hy)
                · intro y hy
                  exact h.mem.own c _ hlk y (by rw [hO]; exact List.mem_cons_of_mem _ hy)
            · cases e
          · simp [val_stuck] at e
        · simp [val_stuck] at e
  · simp [val_stuck] at e
end
end Go.Aix
