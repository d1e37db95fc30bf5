/-
  THE CALCULUS: what a round of a loop comes to is told by a plain proposition; results that are values alone.
-/
import Derived.Test.YtngefcgbfpelcaaAix6
import Derived.Test.YtngefcgbfpelcaaAixX
import Derived.Test.YtngefcgbfpelcaaAix4
import Derived.Test.YtngefcgbfpelcaaAix3
set_option linter.unusedSimpArgs false
set_option linter.unusedVariables false
namespace Go.Aix
/-- What a call hands back. -/
abbrev RES := AV × Store × Nat
theorem imp_l {c : Prop} [Decidable c] {A B G : Prop} (hc : c) (k : A → G) : (if c then A else B) → G := by rw [if_pos hc]; exact k
theorem imp_r {c : Prop} [Decidable c] {A B G : Prop} (hc : ¬ c) (k : B → G) : (if c then A else B) → G := by rw [if_neg hc]; exact k
theorem ite_go {c : Prop} [Decidable c] {α : Type} {x y z : α} (h : c → x = z) (k : ¬ c → y = z) : (if c then x else y) = z := by by_cases q : c; (rw [if_pos q]; exact h q); (rw [if_neg q]; exact k q)
theorem encs1_I64 (x : Int) : tI64.encs [x] = [[.sc (.int .i64 x)]] := rfl
theorem encs1_U8 (x : Int) : tU8.encs [x] = [[.sc (.int .u8 x)]] := rfl
theorem encs1 {α : Type} (T : Ty α) (x : α) : T.encs [x] = [T.enc x] := rfl
theorem mapE1 {α : Type} (f : α → List PV) (x : α) : mapE f [x] = [f x] := rfl
theorem if_go {c : Prop} [Decidable c] {A B : Prop} (h : c → A) (k : ¬ c → B) : if c then A else B := by by_cases q : c; (rw [if_pos q]; exact h q); (rw [if_neg q]; exact k q)
theorem ite_l {c : Prop} [Decidable c] {A B : Prop} (h : if c then A else B) (hc : c) : A := by rwa [if_pos hc] at h
theorem ite_r {c : Prop} [Decidable c] {A B : Prop} (h : if c then A else B) (hc : ¬ c) : B := by rwa [if_neg hc] at h

/-- The first row that a value leads to. -/
def arrA : AV → Option Nat
  | .one x => arrCs [x]
  | .ag xs => arrCs xs
  | .tp vs => arrG vs
where arrG : List (Bool × List Cell) → Option Nat
  | [] => none
  | v :: r => match arrCs v.2 with
    | some c => some c
    | none => arrG r
def iceAll (I : Ops) : Nat → AV → St → R (AV × St)
  | 0, _, _ => .stuck
  | n + 1, r, S => match arrA r with
    | none => .ok (r, S)
    | some c => match lk c S.σ with
      | some (.row sz es) => iceAll I n (iceA I c sz es r) (ice I c sz es S)
      | _ => .stuck
/-- No slice at all is said as an empty one. -/
def nlC : Cell → Cell → Cell
  | .pv .nl, .pv (.sl u s _) => .pv (.sl u s [])
  | c, _ => c
def nlCs : List Cell → List Cell → List Cell
  | c :: r, d :: t => nlC c d :: nlCs r t
  | l, _ => l
def nlGs : List (Bool × List Cell) → List (Bool × List Cell) → List (Bool × List Cell)
  | (g, c) :: r, (_, d) :: t => (g, nlCs c d) :: nlGs r t
  | l, _ => l
def nlA : AV → AV → AV
  | .one c, .one d => .one (nlC c d)
  | .ag c, .ag d => .ag (nlCs c d)
  | .tp c, .tp d => .tp (nlGs c d)
  | a, _ => a
section
variable {w : World} {M : Nat → Prop} {env : EnvT} {E : Ent} {S : St} {R : Value → World → Prop}
theorem RCell.nlC {c d : Cell} {v : Value} (h : RCell w M env c v) : RCell w M env (Aix.nlC c d) v := by
  unfold Aix.nlC
  split
  · cases h with
    | pv h => cases h; exact .pv .nil
  · exact h
theorem RCs.nlCs : ∀ {cs ds : List Cell} {vs : List Value}, RCs w M env cs vs → RCs w M env (Aix.nlCs cs ds) vs
  | _, _, _, .nil => .nil
  | _ :: _, [], _, h => h
  | _ :: _, _ :: _, _, .cons h hr => .cons h.nlC (RCs.nlCs hr)
theorem nlCs_one (c : Cell) (d : List Cell) : ∃ x, Aix.nlCs [c] d = [x] ∧ ∀ {v : Value}, RCell w M env c v → RCell w M env x v := by
  cases d with
  | nil => exact ⟨c, rfl, fun h => h⟩
  | cons d t => exact ⟨Aix.nlC c d, by cases t <;> rfl, fun h => h.nlC⟩
theorem RGs.nlGs : ∀ {l d : List (Bool × List Cell)} {vs : List Value}, RGs w M env l vs → RGs w M env (Aix.nlGs l d) vs
  | _, _, _, .nil => .nil
  | _ :: _, [], _, h => h
  | (g, c) :: r, (_, d) :: t, _, .cons h hr => by
    refine .cons ?_ (RGs.nlGs hr)
    cases g with
    | true =>
      obtain ⟨us, rfl, h⟩ := h
      exact ⟨us, rfl, h.nlCs⟩
    | false =>
      obtain ⟨x, rfl, h⟩ := h
      obtain ⟨y, h1, h2⟩ := nlCs_one (w := w) (M := M) (env := env) x d
      exact ⟨y, h1, h2 h⟩
theorem RAV.nlA {x y : AV} {v : Value} (h : RAV w M env x v) : RAV w M env (Aix.nlA x y) v := by
  unfold Aix.nlA
  split
  · cases h with | one h => exact .one h.nlC
  · cases h with | ag h => exact .ag h.nlCs
  · cases h with | tp h => exact .tp h.nlGs
  · exact h
theorem Ended.iceAll {I : Ops} (hI : I = real) : ∀ {n : Nat} {r r' : AV} {S S' : St}, (Aix.iceAll I n r S).val = some (r', S') → Ended E R r' S' → Ended E R r S
  | 0, _, _, _, _, e, _ => by simp [Aix.iceAll, val_stuck] at e
  | n + 1, r, r', S, S', e, h => by
    unfold Aix.iceAll at e
    split at e
    · simp only [val_ok, Option.some.injEq, Prod.mk.injEq] at e
      obtain ⟨rfl, rfl⟩ := e
      exact h
    · split at e
      · rename_i sz es hlk
        exact Ended.ice hI hlk (Ended.iceAll hI e h)
      · simp [val_stuck] at e
/-- A result whose rows are written no more, and in which nothing at all may be said as something empty. -/
theorem Ended_flat {I : Ops} (hI : I = real) {r r' : AV} {σ : Store} {n : Nat} (h0 : E.n0 = 0) (e : ((Aix.iceAll I 20 r S).bind fun x => endR (Aix.nlA x.1 r') x.2).val = some (r', σ, n)) : Ended E (Back E r' σ n) r S := by
  rw [val_bind] at e
  obtain ⟨⟨x, S'⟩, h1, e⟩ := some_bind e
  refine Ended.iceAll hI h1 ?_
  intro β O a w u hr hv
  exact Ended_of h0 e β O a w u hr hv.nlA
end
end Go.Aix
namespace Go.Aix
/-- Where a slice of unknown make is asked whether it is nil. -/
structure NilT (c A B : Prop) : Prop where
  l : c → A
  r : B
section
variable {P : Program} {X : Ctx} {f : FuncId} {fn : Func} {b : Code} {E : Ent} {R : Value → World → Prop} {S : St}
theorem eq_nil_run {t e : TypeId} {w : World} {a : Option Addr} {n cap : Nat} (ht : P.underlying t = some (.slice e)) : (binOp .eql t (.slice a n cap) (.slice none 0 0)).run P w = .ok (.bool a.isNone) w := by
  have hq : ∀ d, (Op.equalIn (d + 1) t (.slice a n cap) (.slice none 0 0)).run P w = .ok a.isNone w := fun d => by
    cases a <;> simp [Op.equalIn, run_und ht]
  have he : (Op.equal t (.slice a n cap) (.slice none 0 0)).run P w = .ok a.isNone w := hq 9999
  simp [binOp, he]
theorem W_nil (hX : XOk P X) {p q : List Nat} {id : Nat} {ops : Array Oper} {o1 o2 : Oper} {s t1 t2 : Tmp} {t t' : TypeId} {y : TyI} {e : TypeId} {u : Bool} {sz : Nat} {es : List (List PV)}
    (hp : (start [] b p []).head? = some (.code q (.region id ops false))) (hin : codeIn fn.ntmps b = true) (hops : ops = #[o1, o2])
    (h1 : o1.op = .move (.tmp s)) (d1 : o1.dst = some t1) (g1 : o1.guard = none)
    (h2 : o2.op = .binOp .eql t (.tmp t1) (.const (.slice none 0 0)) t') (d2 : o2.dst = some t2) (g2 : o2.guard = none)
    (hx : X t = some y) (hy : y.u = .slice e) (hs : lk s S.T = some (.one (.pv (.sl u sz es))))
    (hA : es = [] → W P f fn E R ((behind b p).map Itm.item) (setDst (setDst S (some t1) (.one (.pv (.sl u sz es)))) (some t2) (scal (.bool true))))
    (hB : W P f fn E R ((behind b p).map Itm.item) (setDst (setDst S (some t1) (.one (.pv (.sl u sz es)))) (some t2) (scal (.bool false)))) : W P f fn E R (place b p []) S := by
  have hl : start [] b p [] = .code q (.region id ops false) :: behind b p := by
    unfold behind
    generalize start [] b p [] = l at hp
    cases l with
    | nil => cases hp
    | cons x l => simp only [List.head?_cons, Option.some.injEq] at hp; subst hp; rfl
  have hi := start_in (n := fn.ntmps) p [] b [] hin (fun _ h => nomatch h)
  have hpl : place b p [] = .code (.region id ops false) :: (behind b p).map Itm.item := by
    have := start_item p [] b []
    rw [hl] at this
    exact this.symm
  have hc : codeIn fn.ntmps (.region id ops false) = true := hi (.code q (.region id ops false)) (by rw [hl]; exact List.mem_cons_self)
  have hd : ∀ (i : Nat) (o : Oper) tt, ops[i]? = some o → o.dst = some tt → tt < fn.ntmps := fun i o tt ho ht => opsIn_spec hc o (by have := Array.mem_of_getElem? ho; simpa using this) tt ht
  rw [hpl]
  intro β O a w hr hsz
  subst hops
  obtain ⟨ii, d, z, j1, j2, j3, j4, j5, j6, j7, j8⟩ := tyOf_some (hX t y hx)
  have hdt : d = .slice e := by
    rw [hy] at j8
    cases d <;> simp [uOf] at j8 <;> first | (rw [j8]) | (split at j8 <;> cases j8)
  subst hdt
  refine At.region ?_
  show wpOps P #[o1, o2] _ [0, 1] a w
  have o1at : (#[o1, o2] : Array Oper)[0]? = some o1 := rfl
  have o2at : (#[o1, o2] : Array Oper)[1]? = some o2 := rfl
  obtain ⟨hs1, hs2⟩ := hr.slots s _ hs
  have t1lt := hd 0 o1 t1 o1at d1
  have t2lt := hd 1 o2 t2 o2at d2
  have hv : ∃ ao n cap, a.tmps.getD s undef = .slice ao n cap ∧ (ao = none → es = []) := by
    generalize a.tmps.getD s undef = v at hs2
    cases hs2 with
    | one hs2 => cases hs2 with
      | pv hs2 => cases hs2 with
        | nil => exact ⟨_, _, _, rfl, fun _ => rfl⟩
        | sh => exact ⟨_, _, _, rfl, fun h => by cases h⟩
  obtain ⟨ao, n, cap, hv, hao⟩ := hv
  have r1 := hr.setDst (d := some t1) (fun tt ht => by cases ht; rw [hsz]; exact t1lt) (x := .one (.pv (.sl u sz es))) hs2
  rw [wpOps_cons]
  unfold wpOp
  simp only [o1at]
  rw [if_pos (by unfold Region.wanted; rw [g1])]
  left
  show o1.upon P a _ _ ((execOp a.eval o1).run P w)
  rw [show (execOp a.eval o1).run P w = .ok (.value (a.tmps.getD s undef)) w by simp only [execOp, h1]; rfl]
  show wpOps P #[o1, o2] _ [1] (a.put o1.dst (a.tmps.getD s undef)) w
  rw [d1, wpOps_cons]
  unfold wpOp
  simp only [o2at]
  rw [if_pos (by unfold Region.wanted; rw [g2])]
  left
  show o2.upon P _ _ _ ((execOp (a.put (some t1) (a.tmps.getD s undef)).eval o2).run P w)
  have ev : (a.put (some t1) (a.tmps.getD s undef)).eval (.tmp t1) = .slice ao n cap := by
    have := (r1.slots t1 _ lk_setDst_self).2
    show (a.put (some t1) (a.tmps.getD s undef)).tmps.getD t1 undef = _
    rw [← hv]
    simp [Act.put, Array.getD_eq_getD_getElem?, hsz, t1lt]
  rw [show (execOp (a.put (some t1) (a.tmps.getD s undef)).eval o2).run P w = .ok (.value (.bool ao.isNone)) w by
    simp only [execOp, h2, ev]
    refine run_v ?_
    rw [Sem.run_bind, run_eqGuard rfl (by simp), Result.andThen_ok]
    exact eq_nil_run j2]
  show Onward P f R ((behind b p).map Itm.item) .normal ((a.put (some t1) (a.tmps.getD s undef)).put o2.dst (.bool ao.isNone)) w
  rw [d2]
  have hsz1 : (a.put (some t1) (a.tmps.getD s undef)).tmps.size = fn.ntmps := by rw [put_size]; exact hsz
  have r2 := r1.setDst (d := some t2) (fun tt ht => by cases ht; rw [hsz1]; exact t2lt) (x := scal (.bool ao.isNone)) (RAV.scal rfl)
  have hsz2 : ((a.put (some t1) (a.tmps.getD s undef)).put (some t2) (.bool ao.isNone)).tmps.size = fn.ntmps := by rw [put_size]; exact hsz1
  show At P f R _ _ _
  cases ao with
  | none => exact hA (hao rfl) β O _ w r2 hsz2
  | some q => exact hB β O _ w r2 hsz2
/-- No elements at all. -/
theorem Ended_em {c o n s : Nat} {u : Bool} (hn : n = 0) (h : Ended E R (.one (.pv (.sl u s []))) S) : Ended E R (.one (.arr c o n)) S := by
  intro β O a w v hr hv
  subst hn
  refine h β O a w v hr ?_
  cases hv with
  | one hv => cases hv with
    | arr => exact .one (.pv .nil)
end
end Go.Aix
namespace Go.Aix
/-! ### Rows that are made over, one element behind the other -/
section
variable {α : Type}
/-- The first i elements are made so, the others so. -/
def mixE (f g : α → List PV) (l : List α) (i : Nat) : List (List PV) := mapE f (l.take i) ++ mapE g (l.drop i)
@[simp] theorem mixE_len (f g : α → List PV) (l : List α) (i : Nat) : (mixE f g l i).length = l.length := by
  unfold mixE
  rw [List.length_append, mapE_length, mapE_length, List.length_take, List.length_drop]
  omega
theorem mapE_enc (T : Ty α) : ∀ l, mapE T.enc l = T.encs l
  | [] => rfl
  | a :: l => by show _ :: mapE T.enc l = _ :: T.encs l; rw [mapE_enc T l]
@[simp] theorem mixE_zero (f : α → List PV) (T : Ty α) (l : List α) : mixE f T.enc l 0 = T.encs l := by
  unfold mixE
  rw [List.take_zero, List.drop_zero, ← mapE_enc]
  rfl
theorem mixE_done (f g : α → List PV) {l : List α} {i : Nat} (h : l.length ≤ i) : mixE f g l i = mapE f l := by
  unfold mixE
  rw [List.take_of_length_le h, List.drop_of_length_le h]
  exact List.append_nil _
theorem mixE_get (f g : α → List PV) {l : List α} {i : Nat} (h : i < l.length) : (mixE f g l i)[i]? = (mapE g l)[i]? := by
  unfold mixE
  rw [List.getElem?_append_right (by rw [mapE_length, List.length_take]; omega), mapE_length, List.length_take, Nat.min_eq_left (by omega), Nat.sub_self, mapE_get, mapE_get, List.getElem?_drop, Nat.add_zero]
theorem mixE_nth (f : α → List PV) (T : Ty α) {l : List α} {i : Nat} (q : Nat) (h : i < l.length) : real.nth (mixE f T.enc l i) i q = real.nth (T.encs l) i q := by
  show ((((mixE f T.enc l i)[i]?).getD [])[q]?).getD (.sc .nilFunc) = ((((T.encs l)[i]?).getD [])[q]?).getD (.sc .nilFunc)
  rw [mixE_get f T.enc h, mapE_enc]
theorem mixE_succ (f g : α → List PV) {l : List α} {i : Nat} (x : α) (h : i < l.length) : mixE f g (l.set i x) (i + 1) = real.set (mixE f g l i) i (f x) := by
  show _ = (mixE f g l i).set i (f x)
  unfold mixE
  rw [List.set_append_right _ _ (by rw [mapE_length, List.length_take]; omega), mapE_length, List.length_take, Nat.min_eq_left (by omega), Nat.sub_self, List.drop_eq_getElem_cons h]
  have e1 : (l.set i x).take (i + 1) = l.take i ++ [x] := by
    rw [List.take_succ_eq_append_getElem (by simpa using h), List.take_set_of_le (Nat.le_refl i)]
    simp
  have e2 : (l.set i x).drop (i + 1) = l.drop (i + 1) := by rw [List.drop_set_of_lt (by omega)]
  rw [e1, e2, mapE_append]
  show (mapE f (l.take i) ++ [f x]) ++ mapE g (l.drop (i + 1)) = mapE f (l.take i) ++ (g l[i] :: mapE g (l.drop (i + 1))).set 0 (f x)
  simp
theorem set_nth [Inhabited α] {l : List α} {i : Nat} (h : i < l.length) : l.set i (nth l i) = l := by
  simp [nth, h]
theorem mixE_same [Inhabited α] (f g : α → List PV) {l : List α} {i : Nat} (h : i < l.length) : mixE f g l (i + 1) = real.set (mixE f g l i) i (f (nth l i)) := by
  rw [← mixE_succ f g _ h, set_nth h]
end
end Go.Aix
namespace Go.Aix
theorem mixE_nthN {α : Type} (f : α → List PV) (T : Ty α) {l : List α} {i m : Nat} (q : Nat) (e : i = m) (h : m < l.length) : real.nth (mixE f T.enc l m) i q = real.nth (T.encs l) m q := by subst e; exact mixE_nth f T q h
theorem mixE_setN {α : Type} (f g : α → List PV) {l : List α} {x : Int} {m : Nat} (ps : List PV) (e : x.toNat = m) : real.set (mixE f g l m) x.toNat ps = real.set (mixE f g l m) m ps := by rw [e]
theorem tNode_enc (x : NodeV) : tNode.enc x = [.sc (.int .i64 x.op), .sc (.int .i64 x.a), .sc (.int .i64 x.b), .sc (.int .i64 x.col), .sc (.int .i64 x.test), .sc (.int .i64 x.value), .sl false 1 (tI64.encs x.cells)] := rfl
end Go.Aix
namespace Go.Aix
@[simp] theorem at0_0 (a0 : PV) (l : List PV) : at0 (a0 :: l) 0 = a0 := rfl
@[simp] theorem at0_1 (a0 a1 : PV) (l : List PV) : at0 (a0 :: a1 :: l) 1 = a1 := rfl
@[simp] theorem at0_2 (a0 a1 a2 : PV) (l : List PV) : at0 (a0 :: a1 :: a2 :: l) 2 = a2 := rfl
@[simp] theorem at0_3 (a0 a1 a2 a3 : PV) (l : List PV) : at0 (a0 :: a1 :: a2 :: a3 :: l) 3 = a3 := rfl
@[simp] theorem at0_4 (a0 a1 a2 a3 a4 : PV) (l : List PV) : at0 (a0 :: a1 :: a2 :: a3 :: a4 :: l) 4 = a4 := rfl
@[simp] theorem at0_5 (a0 a1 a2 a3 a4 a5 : PV) (l : List PV) : at0 (a0 :: a1 :: a2 :: a3 :: a4 :: a5 :: l) 5 = a5 := rfl
@[simp] theorem at0_6 (a0 a1 a2 a3 a4 a5 a6 : PV) (l : List PV) : at0 (a0 :: a1 :: a2 :: a3 :: a4 :: a5 :: a6 :: l) 6 = a6 := rfl
end Go.Aix
namespace Go.Aix
/-- What the elements own is given up: others may hold it from now on. -/
theorem Back.down1 {w0 w : World} {Xs : Nat → Prop} {r : AV} {sz : Nat} {es : List (List PV)} {u : Value} (h : Back (Ent0 w0 Xs) r [(0, .row sz es)] 1 u w) : Back (Ent0 w0 Xs) r [(0, .row sz (downs es))] 1 u w := by
  obtain ⟨β, O, m, hr⟩ := h
  have k0 : lk 0 [((0 : Nat), Chunk.row sz es)] = some (.row sz es) := rfl
  have k : ∀ {c ch}, lk c [((0 : Nat), Chunk.row sz (downs es))] = some ch → c = 0 ∧ ch = .row sz (downs es) := by
    intro c ch hc
    unfold lk at hc
    split at hc
    · rename_i hb; exact ⟨beq_eq hb, (Option.some.inj hc).symm⟩
    · cases hc
  have hown := fun b hb => m.own 0 _ k0 b hb
  have hnd := m.nodup 0 _ k0
  have hM' : ∀ b, Mof (Ent0 w0 Xs) β (fun _ => []) [(0, .row sz (downs es))] b → (Ent0 w0 Xs).X b ∨ b = (β 0).1 := by
    rintro b (h | ⟨c, ch, hc, hb⟩)
    · exact .inl h
    · obtain ⟨rfl, rfl⟩ := k hc
      exact .inr (by simpa using hb)
  have t : Turn w w (Mof (Ent0 w0 Xs) β O [(0, .row sz es)]) (Mof (Ent0 w0 Xs) β (fun _ => []) [(0, .row sz (downs es))]) (fun _ => False) := by
    refine ⟨fun _ _ _ h => h, fun _ h => h.elim, fun b hb => .inl ?_⟩
    rcases hM' b hb with h | rfl
    · exact .inl h
    · exact .inr ⟨0, _, k0, List.mem_cons_self⟩
  have he : envOf β [((0 : Nat), Chunk.row sz (downs es))] = envOf β [((0 : Nat), Chunk.row sz es)] := by
    funext c
    unfold envOf lk
    split <;> simp [Chunk.sz, Chunk.cnt, downs_length, lk]
  refine ⟨β, fun _ => [], ⟨?_, ?_, ?_, ?_, ?_, m.os, m.tape, m.output, m.size, m.frame, m.xlt, m.nxt, ?_⟩, ?_⟩
  · intro c ch hc
    obtain ⟨rfl, _⟩ := k hc
    exact Nat.zero_lt_one
  · intro c ch hc
    obtain ⟨rfl, rfl⟩ := k hc
    rw [he]
    cases m.chunk 0 _ k0 with
    | row hb hN h =>
      refine .row hb hN ?_
      refine RLL.downs (h.turn t (fun _ _ h => h)) fun b hb hm => ?_
      rcases hM' b hm with hx | rfl
      · exact (hown b (List.mem_cons_of_mem _ hb)).1 hx
      · exact (List.nodup_cons.1 hnd).1 hb
  · intro c ch hc
    simp
  · intro c d ch dh hc hd hcd
    obtain ⟨rfl, _⟩ := k hc
    obtain ⟨rfl, _⟩ := k hd
    exact absurd rfl hcd
  · intro c ch hc b hb
    obtain ⟨rfl, _⟩ := k hc
    exact hown b (by simp at hb; subst hb; exact List.mem_cons_self)
  · intro c ch h0 hc
    exact absurd h0 (Nat.not_lt_zero _)
  · rw [he]
    exact hr.turn t (fun _ _ h => h)
theorem Ok0.down1 {P : Program} {g : FuncId} {args : List AV} {r : AV} {sz : Nat} {es : List (List PV)} (h : Ok0 P g args r [(0, .row sz es)] 1) : Ok0 P g args r [(0, .row sz (downs es))] 1 :=
  fun w Xs vs hX hv => (h w Xs vs hX hv).mono fun e w' he => by
    cases e with
    | returned u => exact Back.down1 he
    | panicked => exact he.elim
    | outgrown => exact he.elim
end Go.Aix
namespace Go.Aix
theorem encs_setR {α : Type} (T : Ty α) (l : List α) (i : Nat) (x : α) : T.encs (l.set i x) = real.set (T.encs l) i (T.enc x) := by
  rw [← mapE_enc, ← mapE_enc, ← mapE_set]
  rfl
theorem mapE_setR {α : Type} (f : α → List PV) (l : List α) (i : Nat) (x : α) : mapE f (l.set i x) = real.set (mapE f l) i (f x) := (mapE_set f l i x).symm
end Go.Aix
namespace Go.Aix
/-! ### A state at a loop's place, where nothing at all is said as something empty -/
/-- Cell by cell: the same, or nothing at all as something empty. -/
inductive NlP : List PV → List PV → Prop
  | nil : NlP [] []
  | same {p : PV} {ps qs : List PV} (h : NlP ps qs) : NlP (p :: ps) (p :: qs)
  | nl {u : Bool} {s : Nat} {ps qs : List PV} (h : NlP ps qs) : NlP (.nl :: ps) (.sl u s [] :: qs)
theorem NlP.length {ps qs : List PV} (h : NlP ps qs) : qs.length = ps.length := by
  induction h with
  | nil => rfl
  | same _ ih => simp [ih]
  | nl _ ih => simp [ih]
theorem NlP.rl {w : World} {M : Nat → Prop} : ∀ {ps qs : List PV} {vs : List Value} {O : List Nat}, NlP ps qs → RL w M ps vs O → RL w M qs vs O
  | _, _, _, _, .nil, h => h
  | _, _, _, _, .same h, .cons h1 hr => .cons h1 (NlP.rl h hr)
  | _, _, _, _, .nl h, .cons h1 hr => by cases h1; exact .cons .nil (NlP.rl h hr)
theorem RLL.setNl {w : World} {M : Nat → Prop} {sz : Nat} {ps qs : List PV} (h : NlP ps qs) : ∀ {es : List (List PV)} {i : Nat} {vs : List Value} {O : List Nat}, RLL w M sz (es.set i ps) vs O → RLL w M sz (es.set i qs) vs O
  | [], _, _, _, hr => by simpa using hr
  | e :: es, 0, _, _, hr => by
    rw [List.set_cons_zero] at hr ⊢
    cases hr with
    | cons hl h1 hr => exact .cons (by rw [h.length]; exact hl) (h.rl h1) hr
  | e :: es, i + 1, _, _, hr => by
    rw [List.set_cons_succ] at hr ⊢
    cases hr with
    | cons hl h1 hr => exact .cons hl h1 (RLL.setNl h hr)
theorem Wk.set {sz i : Nat} {es : List (List PV)} {ps qs : List PV} (h : NlP ps qs) : Wk sz (real.set es i ps) (real.set es i qs) :=
  ⟨by show (es.set i qs).length = (es.set i ps).length; simp, fun w M vs O hr => RLL.setNl h hr⟩
theorem RLL.oneNl {w : World} {M : Nat → Prop} {sz : Nat} {ps qs : List PV} (h : NlP ps qs) {vs : List Value} {O : List Nat} (hr : RLL w M sz [ps] vs O) : RLL w M sz [qs] vs O := by
  cases hr with
  | cons hl h1 hr => exact .cons (by rw [h.length]; exact hl) (h.rl h1) hr
theorem Wk.app1 {sz : Nat} (es : List (List PV)) {ps qs : List PV} (h : NlP ps qs) : Wk sz (es ++ [ps]) (es ++ [qs]) :=
  Wk.app (a := [ps]) (b := [qs]) ⟨rfl, fun w M vs O hr => RLL.oneNl h hr⟩ es
theorem Wk.eq {sz : Nat} {es es' : List (List PV)} (h : es = es') : Wk sz es es' := h ▸ Wk.refl
theorem SWk.row2 {σ σ' : Store} {c sz : Nat} {es es' : List (List PV)} (h : Wk sz es es') (hr : SWk σ σ') (hc : lk c σ = none) : SWk ((c, .row sz es) :: σ) ((c, .row sz es') :: σ') := by
  intro d
  by_cases e : d = c
  · subst e
    exact .inr ⟨sz, es, es', by simp [lk], by simp [lk], h⟩
  · have hne : Nat.beq d c = false := by
      cases hb : Nat.beq d c with
      | true => exact absurd (beq_eq hb) e
      | false => rfl
    rcases hr d with h1 | ⟨s, a, b, h1, h2, h3⟩
    · exact .inl (by simp only [lk, hne]; exact h1)
    · exact .inr ⟨s, a, b, by simp only [lk, hne]; exact h1, by simp only [lk, hne]; exact h2, h3⟩
theorem W_normW {P : Program} {f : FuncId} {fn : Func} {E : Ent} {R : Value → World → Prop} {S : St} (live : List Nat) {k : List Item} {S1 S2 : St} (e : (norm E.n0 live S).val = some S1) (hT : S1.T = S2.T) (hn : S1.next = S2.next) (hσ : SWk S1.σ S2.σ) (h : W P f fn E R k S2) : W P f fn E R k S := by
  refine W_norm live e ?_
  obtain ⟨T1, σ1, n1⟩ := S1
  obtain ⟨T2, σ2, n2⟩ := S2
  dsimp only at hT hn hσ
  subst hT hn
  exact W_wk hσ h
end Go.Aix
