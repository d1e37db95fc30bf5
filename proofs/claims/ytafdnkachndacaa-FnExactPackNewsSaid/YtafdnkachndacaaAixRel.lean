/-
  THE CALCULUS, SECOND TEXT: what the words mean of a world, and how that stays while the world goes on.
-/
import Derived.Test.YtafdnkachndacaaAixDefs
set_option linter.unusedSimpArgs false
set_option linter.unusedVariables false
namespace Go.Aix

/-- The cells of block b. -/
def blk (w : World) (b : Nat) : Option (List Value) := match w.heap[b]? with
  | some (.cells c _ _) => some c.toList
  | _ => none

def oneV : Value → Bool
  | .agg _ => false
  | .tuple _ => false
  | _ => true

mutual
/-- v reads as p; O: the blocks that are p's own; no other block of it is one of M. -/
inductive RPV (w : World) (M : Nat → Prop) : PV → Value → List Nat → Prop
  | sc {v : Value} (h : oneV v = true) : RPV w M (.sc v) v []
  | nl : RPV w M .nl (.slice none 0 0) []
  | nil {un : Bool} {sz cap : Nat} {a : Option Addr} : RPV w M (.sl un sz []) (.slice a 0 cap) []
  | sh {sz b off cap : Nat} {es : List (List PV)} {cs : List Value} (hne : es ≠ []) (hM : ¬ M b) (hb : blk w b = some cs) (hc : es.length ≤ cap) (h : RLL w M sz es (cs.drop off) []) :
      RPV w M (.sl false sz es) (.slice (some ⟨b, off, none⟩) es.length cap) []
  | un {sz b cap : Nat} {es : List (List PV)} {cs : Array Value} {t : TypeId} {O : List Nat} (hne : es ≠ []) (hb : w.heap[b]? = some (.cells cs t (0, 0))) (hc : es.length ≤ cap) (hr : cap * sz ≤ cs.size) (h : RLL w M sz es cs.toList O) :
      RPV w M (.sl true sz es) (.slice (some ⟨b, 0, none⟩) es.length cap) (b :: O)
  | dd {v : Value} (h : oneV v = true) : RPV w M .dd v []
/-- The first values read as these. -/
inductive RL (w : World) (M : Nat → Prop) : List PV → List Value → List Nat → Prop
  | nil {vs : List Value} : RL w M [] vs []
  | cons {p : PV} {v : Value} {ps : List PV} {vs : List Value} {O1 O2 : List Nat} (h : RPV w M p v O1) (hr : RL w M ps vs O2) : RL w M (p :: ps) (v :: vs) (O1 ++ O2)
/-- The first values read as these elements, of sz cells each. -/
inductive RLL (w : World) (M : Nat → Prop) : Nat → List (List PV) → List Value → List Nat → Prop
  | nil {sz : Nat} {vs : List Value} : RLL w M sz [] vs []
  | cons {sz : Nat} {ps : List PV} {es : List (List PV)} {vs : List Value} {O1 O2 : List Nat} (hl : ps.length = sz) (h : RL w M ps vs O1) (hr : RLL w M sz es (vs.drop sz) O2) : RLL w M sz (ps :: es) vs (O1 ++ O2)
end

section
variable {w w' : World} {M M' D : Nat → Prop}

/-- What stays where the blocks of D alone have turned. -/
structure Turn (w w' : World) (M M' D : Nat → Prop) : Prop where
  same : ∀ b o, ¬ D b → w.heap[b]? = some o → w'.heap[b]? = some o
  within : ∀ b, D b → M b
  grows : ∀ b, M' b → M b ∨ blk w b = none

theorem Turn.blk (t : Turn w w' M M' D) (b : Nat) (cs : List Value) (h : ¬ D b) (hb : Aix.blk w b = some cs) : Aix.blk w' b = some cs := by
  unfold Aix.blk at *
  split at hb
  · rename_i c ty fr e
    rw [t.same b _ h e]
    exact hb
  · cases hb
theorem Turn.refl : Turn w w M M (fun _ => False) := ⟨fun _ _ _ h => h, fun _ h => h.elim, fun _ h => .inl h⟩

mutual
theorem RPV.turn (t : Turn w w' M M' D) : ∀ {p : PV} {v : Value} {O : List Nat}, RPV w M p v O → (∀ b ∈ O, ¬ D b) → RPV w' M' p v O
  | _, _, _, .sc h, _ => .sc h
  | _, _, _, .nl, _ => .nl
  | _, _, _, .nil, _ => .nil
  | _, _, _, .dd h, _ => .dd h
  | _, _, _, .sh hne hM hb hc h, hO => .sh hne (fun h' => (t.grows _ h').elim hM (fun e => by rw [hb] at e; cases e)) (t.blk _ _ (fun h' => hM (t.within _ h')) hb) hc (RLL.turn t h hO)
  | _, _, _, .un hne hb hc hr h, hO => .un hne (t.same _ _ (hO _ List.mem_cons_self) hb) hc hr (RLL.turn t h (fun b hb => hO b (List.mem_cons_of_mem _ hb)))
theorem RL.turn (t : Turn w w' M M' D) : ∀ {ps : List PV} {vs : List Value} {O : List Nat}, RL w M ps vs O → (∀ b ∈ O, ¬ D b) → RL w' M' ps vs O
  | _, _, _, .nil, _ => .nil
  | _, _, _, .cons h hr, hO => .cons (RPV.turn t h (fun b hb => hO b (List.mem_append_left _ hb))) (RL.turn t hr (fun b hb => hO b (List.mem_append_right _ hb)))
theorem RLL.turn (t : Turn w w' M M' D) : ∀ {sz : Nat} {es : List (List PV)} {vs : List Value} {O : List Nat}, RLL w M sz es vs O → (∀ b ∈ O, ¬ D b) → RLL w' M' sz es vs O
  | _, _, _, _, .nil, _ => .nil
  | _, _, _, _, .cons hl h hr, hO => .cons hl (RL.turn t h (fun b hb => hO b (List.mem_append_left _ hb))) (RLL.turn t hr (fun b hb => hO b (List.mem_append_right _ hb)))
end

mutual
def PV.down : PV → PV
  | .sc v => .sc v
  | .nl => .nl
  | .dd => .dd
  | .sl _ sz es => .sl false sz (downs es)
def downs : List (List PV) → List (List PV)
  | [] => []
  | ps :: es => downc ps :: downs es
def downc : List PV → List PV
  | [] => []
  | p :: ps => p.down :: downc ps
end
theorem downs_length : ∀ (es : List (List PV)), (downs es).length = es.length
  | [] => rfl
  | _ :: es => by simp [downs, downs_length es]
theorem downc_length : ∀ (es : List PV), (downc es).length = es.length
  | [] => rfl
  | _ :: es => by simp [downc, downc_length es]
theorem downc_map : ∀ (ps : List PV), downc ps = ps.map PV.down
  | [] => rfl
  | p :: ps => by simp [downc, downc_map ps]
theorem downs_map : ∀ (es : List (List PV)), downs es = es.map downc
  | [] => rfl
  | p :: ps => by simp [downs, downs_map ps]

mutual
theorem RPV.down : ∀ {p : PV} {v : Value} {O : List Nat}, RPV w M p v O → (∀ b ∈ O, ¬ M b) → RPV w M p.down v []
  | _, _, _, .sc h, _ => by rw [PV.down]; exact .sc h
  | _, _, _, .nl, _ => by rw [PV.down]; exact .nl
  | _, _, _, .nil, _ => by rw [PV.down, downs]; exact .nil
  | _, _, _, .dd h, _ => by rw [PV.down]; exact .dd h
  | _, _, _, .sh (es := es) hne hM hb hc h, hO => by
    rw [PV.down, ← downs_length es]
    exact .sh (by rw [← List.length_pos_iff, downs_length]; exact List.length_pos_iff.2 hne) hM hb (by rw [downs_length]; exact hc) (RLL.downs h hO)
  | _, _, _, .un (es := es) (b := b) (cs := cs) hne hb hc hr h, hO => by
    rw [PV.down, ← downs_length es]
    refine .sh (cs := cs.toList) (off := 0) (by rw [← List.length_pos_iff, downs_length]; exact List.length_pos_iff.2 hne) (hO _ List.mem_cons_self) ?_ (by rw [downs_length]; exact hc) (RLL.downs h (fun b hb => hO b (List.mem_cons_of_mem _ hb)))
    unfold blk
    rw [hb]
theorem RL.down : ∀ {ps : List PV} {vs : List Value} {O : List Nat}, RL w M ps vs O → (∀ b ∈ O, ¬ M b) → RL w M (downc ps) vs []
  | _, _, _, .nil, _ => by rw [downc]; exact .nil
  | _, _, _, .cons h hr, hO => by
    rw [downc]
    exact .cons (O1 := []) (O2 := []) (RPV.down h (fun b hb => hO b (List.mem_append_left _ hb))) (RL.down hr (fun b hb => hO b (List.mem_append_right _ hb)))
theorem RLL.downs : ∀ {sz : Nat} {es : List (List PV)} {vs : List Value} {O : List Nat}, RLL w M sz es vs O → (∀ b ∈ O, ¬ M b) → RLL w M sz (downs es) vs []
  | _, _, _, _, .nil, _ => by rw [Aix.downs]; exact .nil
  | _, _, _, _, .cons hl h hr, hO => by
    rw [Aix.downs]
    exact .cons (O1 := []) (O2 := []) (by rw [downc_length]; exact hl) (RL.down h (fun b hb => hO b (List.mem_append_left _ hb))) (RLL.downs hr (fun b hb => hO b (List.mem_append_right _ hb)))
end

/-! ### What is left where something own was -/
def deadP : PV → PV
  | .sl true _ (_ :: _) => .dd
  | p => p
def deads (es : List (List PV)) : List (List PV) := es.map (·.map deadP)
theorem deads_length (es : List (List PV)) : (deads es).length = es.length := by simp [deads]
theorem RPV.oneV' : ∀ {p : PV} {v : Value} {O : List Nat}, RPV w M p v O → oneV v = true
  | _, _, _, .sc h => h
  | _, _, _, .nl => rfl
  | _, _, _, .nil => rfl
  | _, _, _, .sh .. => rfl
  | _, _, _, .un .. => rfl
  | _, _, _, .dd h => h
theorem RPV.dead {p : PV} {v : Value} {O : List Nat} (h : RPV w M p v O) : RPV w M (deadP p) v [] := by
  unfold deadP
  split
  · exact .dd h.oneV'
  · rename_i hne
    cases h with
    | sc h => exact .sc h
    | nl => exact .nl
    | nil => exact .nil
    | sh a b c d e => exact .sh a b c d e
    | un a b c d e =>
      rename_i sz b' cap es cs t O
      cases es with
      | nil => exact absurd rfl a
      | cons x es => exact absurd rfl (hne _ _ _)
    | dd h => exact .dd h
theorem RL.dead : ∀ {ps : List PV} {vs : List Value} {O : List Nat}, RL w M ps vs O → RL w M (ps.map deadP) vs []
  | _, _, _, .nil => .nil
  | _, _, _, .cons h hr => .cons (O1 := []) (O2 := []) h.dead (RL.dead hr)
theorem RLL.deads : ∀ {sz : Nat} {es : List (List PV)} {vs : List Value} {O : List Nat}, RLL w M sz es vs O → RLL w M sz (deads es) vs []
  | _, _, _, _, .nil => .nil
  | _, _, _, _, .cons hl h hr => .cons (O1 := []) (O2 := []) (by simpa using hl) h.dead (RLL.deads hr)
/-- Is it a slice of such elements that may be held by others? -/
def isSh (sz : Nat) : PV → Bool
  | .nl => true
  | .sl false s _ => Nat.beq s sz
  | .sl true s [] => Nat.beq s sz
  | _ => false
/-- Is nothing of it its own? -/
def isOne : PV → Bool
  | .sl true _ (_ :: _) => false
  | _ => true
/-- Is it a slice of some such elements that nobody else holds? -/
def isOwn (sz : Nat) : PV → Bool
  | .sl true s (_ :: _) => Nat.beq s sz
  | _ => false
/-- Has it no elements? -/
def isNo : PV → Bool
  | .nl => true
  | .sl _ _ [] => true
  | _ => false
theorem RPV.one {p : PV} {v : Value} {O : List Nat} (h : RPV w M p v O) (hp : isOne p = true) : RPV w M p v [] := by
  cases h with
  | sc h => exact .sc h
  | nl => exact .nl
  | nil => exact .nil
  | sh a b c d e => exact .sh a b c d e
  | un a b c d e =>
    rename_i sz b' cap es cs t O
    cases es with
    | nil => exact absurd rfl a
    | cons x es => cases hp
  | dd h => exact .dd h
/-! ### Values that share nothing -/
mutual
def PV.pur : PV → Bool
  | .sc _ => true
  | .nl => true
  | .dd => true
  | .sl u _ es => (u || es.isEmpty) && purs es
def purs : List (List PV) → Bool
  | [] => true
  | e :: r => purc e && purs r
def purc : List PV → Bool
  | [] => true
  | p :: r => p.pur && purc r
end
mutual
theorem RPV.pure : ∀ {p : PV} {v : Value} {O : List Nat}, RPV w M p v O → p.pur = true → RPV w M' p v O
  | _, _, _, .sc h, _ => .sc h
  | _, _, _, .nl, _ => .nl
  | _, _, _, .nil, _ => .nil
  | _, _, _, .dd h, _ => .dd h
  | _, _, _, .sh (es := es) hne hM hb hc h, hp => by
    exfalso
    cases es with
    | nil => exact hne rfl
    | cons x es => simp [PV.pur] at hp
  | _, _, _, .un hne hb hc hr h, hp => by
    rw [PV.pur, Bool.and_eq_true] at hp
    exact .un hne hb hc hr (RLL.pure h hp.2)
theorem RL.pure : ∀ {ps : List PV} {vs : List Value} {O : List Nat}, RL w M ps vs O → purc ps = true → RL w M' ps vs O
  | _, _, _, .nil, _ => .nil
  | _, _, _, .cons h hr, hp => by
    rw [purc, Bool.and_eq_true] at hp
    exact .cons (RPV.pure h hp.1) (RL.pure hr hp.2)
theorem RLL.pure : ∀ {sz : Nat} {es : List (List PV)} {vs : List Value} {O : List Nat}, RLL w M sz es vs O → purs es = true → RLL w M' sz es vs O
  | _, _, _, _, .nil, _ => .nil
  | _, _, _, _, .cons hl h hr, hp => by
    rw [purs, Bool.and_eq_true] at hp
    exact .cons hl (RL.pure h hp.1) (RLL.pure hr hp.2)
end
/-! ### Elements -/
theorem RL.le : ∀ {ps : List PV} {vs : List Value} {O : List Nat}, RL w M ps vs O → ps.length ≤ vs.length
  | _, _, _, .nil => Nat.zero_le _
  | _, _, _, .cons _ hr => Nat.succ_le_succ (RL.le hr)
theorem RLL.le {sz : Nat} : ∀ {es : List (List PV)} {vs : List Value} {O : List Nat}, RLL w M sz es vs O → es.length * sz ≤ vs.length
  | _, _, _, .nil => by simp
  | _, _, _, .cons hl h hr => by
    have h1 := RL.le h
    have h2 := RLL.le hr
    rw [List.length_drop] at h2
    rw [List.length_cons, Nat.add_mul]
    omega
theorem RL.get : ∀ {ps : List PV} {vs : List Value} {O : List Nat} (_ : RL w M ps vs O) (q : Nat) (p : PV), ps[q]? = some p → ∃ v O1, vs[q]? = some v ∧ RPV w M p v O1 ∧ (∀ b ∈ O1, b ∈ O)
  | _, _, _, .nil, q, p, hq => by simp at hq
  | _, _, _, .cons h hr, 0, p, hq => by
    simp only [List.getElem?_cons_zero, Option.some.injEq] at hq
    subst hq
    exact ⟨_, _, rfl, h, fun b hb => List.mem_append_left _ hb⟩
  | _, _, _, .cons h hr, q + 1, p, hq => by
    simp only [List.getElem?_cons_succ] at hq ⊢
    obtain ⟨v, O1, h1, h2, h3⟩ := RL.get hr q p hq
    exact ⟨v, O1, h1, h2, fun b hb => List.mem_append_right _ (h3 b hb)⟩
/-- Element i stands i times sz on. -/
theorem RLL.get {sz : Nat} : ∀ {es : List (List PV)} {vs : List Value} {O : List Nat} (_ : RLL w M sz es vs O) (i : Nat) (ps : List PV), es[i]? = some ps →
    ps.length = sz ∧ ∃ A B C, O = A ++ B ++ C ∧ RL w M ps (vs.drop (i * sz)) B
  | _, _, _, .nil, i, p, hq => by simp at hq
  | _, _, _, .cons (O1 := O1) (O2 := O2) hl h hr, 0, p, hq => by
    simp only [List.getElem?_cons_zero, Option.some.injEq] at hq
    subst hq
    exact ⟨hl, [], O1, O2, by simp, by simpa using h⟩
  | _, _, _, .cons (O1 := O1) (vs := vs) hl h hr, i + 1, p, hq => by
    simp only [List.getElem?_cons_succ] at hq
    obtain ⟨h1, A, B, C, h2, h3⟩ := RLL.get hr i p hq
    refine ⟨h1, O1 ++ A, B, C, by rw [h2]; simp, ?_⟩
    rw [List.drop_drop] at h3
    rw [show (i + 1) * sz = sz + i * sz from by rw [Nat.add_mul]; omega]
    exact h3
theorem RL.pre : ∀ {ps : List PV} {vs : List Value} {O : List Nat} (_ : RL w M ps vs O) (us : List Value), us.take ps.length = vs.take ps.length → RL w M ps us O
  | _, _, _, .nil, _, _ => .nil
  | _, _, _, .cons h hr, [], e => by simp at e
  | _, _, _, .cons h hr, u :: us, e => by
    simp only [List.length_cons, List.take_succ_cons, List.cons.injEq] at e
    rw [e.1]
    exact .cons h (RL.pre hr us e.2)
theorem RLL.pre {sz : Nat} : ∀ {es : List (List PV)} {vs : List Value} {O : List Nat} (_ : RLL w M sz es vs O) (us : List Value), us.take (es.length * sz) = vs.take (es.length * sz) → RLL w M sz es us O
  | _, _, _, .nil, _, _ => .nil
  | _, _, _, .cons (ps := ps) (es := es) (vs := vs) hl h hr, us, e => by
    rw [List.length_cons, show (es.length + 1) * sz = sz + es.length * sz from by rw [Nat.add_mul]; omega] at e
    refine .cons hl (RL.pre h us ?_) (RLL.pre hr _ ?_)
    · rw [hl]
      have := congrArg (List.take sz) e
      simpa [List.take_take, Nat.min_eq_left (Nat.le_add_right sz (es.length * sz))] using this
    · have := congrArg (List.drop sz) e
      simpa [List.drop_take] using this
theorem RLL.drop {sz : Nat} : ∀ {es : List (List PV)} {vs : List Value} {O : List Nat} (_ : RLL w M sz es vs O) (o : Nat), ∃ A B, O = A ++ B ∧ RLL w M sz (es.drop o) (vs.drop (o * sz)) B
  | es, _, O, h, 0 => ⟨[], O, rfl, by simpa using h⟩
  | _, _, _, .nil, o + 1 => ⟨[], [], rfl, by simpa using .nil⟩
  | _, _, _, .cons (O1 := O1) hl h hr, o + 1 => by
    obtain ⟨A, B, h1, h2⟩ := RLL.drop hr o
    refine ⟨O1 ++ A, B, by rw [h1]; simp, ?_⟩
    rw [List.drop_drop] at h2
    rw [List.drop_succ_cons, show (o + 1) * sz = sz + o * sz from by rw [Nat.add_mul]; omega]
    exact h2
theorem RLL.take {sz : Nat} : ∀ {es : List (List PV)} {vs : List Value} {O : List Nat} (_ : RLL w M sz es vs O) (n : Nat), ∃ A B, O = A ++ B ∧ RLL w M sz (es.take n) vs A
  | _, _, O, _, 0 => ⟨[], O, rfl, by simpa using .nil⟩
  | _, _, _, .nil, n + 1 => ⟨[], [], rfl, by simpa using .nil⟩
  | _, _, _, .cons (O1 := O1) hl h hr, n + 1 => by
    obtain ⟨A, B, h1, h2⟩ := RLL.take hr n
    exact ⟨O1 ++ A, B, by rw [h1]; simp, by rw [List.take_succ_cons]; exact .cons hl h h2⟩
/-- Some of the elements: what they own is a part. -/
theorem RLL.ext {sz : Nat} {es : List (List PV)} {vs : List Value} {O : List Nat} (h : RLL w M sz es vs O) (o n : Nat) : ∃ A B C, O = A ++ B ++ C ∧ RLL w M sz ((es.drop o).take n) (vs.drop (o * sz)) B := by
  obtain ⟨A, B, h1, h2⟩ := h.drop o
  obtain ⟨B1, B2, h3, h4⟩ := h2.take n
  exact ⟨A, B1, B2, by rw [h1, h3]; simp, h4⟩
theorem RLL.append {sz : Nat} : ∀ {es fs : List (List PV)} {vs : List Value} {O O' : List Nat} (_ : RLL w M sz es vs O) (_ : RLL w M sz fs (vs.drop (es.length * sz)) O'), RLL w M sz (es ++ fs) vs (O ++ O')
  | _, _, _, _, _, .nil, h' => by simpa using h'
  | _, fs, vs, _, O', .cons (O1 := O1) (O2 := O2) (es := es) hl h hr, h' => by
    rw [List.cons_append, List.append_assoc]
    refine .cons hl h (RLL.append hr ?_)
    rw [List.drop_drop]
    rw [List.length_cons, show (es.length + 1) * sz = sz + es.length * sz from by rw [Nat.add_mul]; omega] at h'
    exact h'
/-- One element, and what may stand in its place. -/
theorem RLL.upd {sz : Nat} : ∀ (i : Nat) {es : List (List PV)} {vs : List Value} {O : List Nat} (_ : RLL w M sz es vs O) (ps : List PV), es[i]? = some ps →
    ∃ A B C, O = A ++ B ++ C ∧ RL w M ps (vs.drop (i * sz)) B ∧ ps.length = sz ∧
      ∀ (qs : List PV) (us : List Value) (Oq : List Nat), qs.length = sz → us.take (i * sz) = vs.take (i * sz) → RL w M qs (us.drop (i * sz)) Oq →
        us.drop ((i + 1) * sz) = vs.drop ((i + 1) * sz) → i * sz ≤ us.length → RLL w M sz (es.set i qs) us (A ++ Oq ++ C)
  | 0, _, _, _, h, ps, hi => by
    cases h with
    | nil => simp at hi
    | cons hl h hr =>
      rename_i p0 es O1 O2
      simp only [List.getElem?_cons_zero, Option.some.injEq] at hi
      subst hi
      refine ⟨[], O1, O2, by simp, by simpa using h, hl, ?_⟩
      intro qs us Oq hq _ hR hd _
      simp only [List.set_cons_zero, List.nil_append]
      simp only [Nat.zero_mul, List.drop_zero] at hR
      simp only [Nat.zero_add, Nat.one_mul] at hd
      exact .cons hq hR (by rw [hd]; exact hr)
  | i + 1, _, vs, _, h, ps, hi => by
    cases h with
    | nil => simp at hi
    | cons hl h hr =>
      rename_i p0 es O1 O2
      simp only [List.getElem?_cons_succ] at hi
      obtain ⟨A, B, C, h1, h2, h3, h4⟩ := RLL.upd i hr ps hi
      have e1 : (i + 1) * sz = sz + i * sz := by rw [Nat.add_mul]; omega
      have e2 : (i + 1 + 1) * sz = sz + (i + 1) * sz := by rw [Nat.add_mul (i + 1)]; omega
      refine ⟨O1 ++ A, B, C, by rw [h1]; simp, by rw [e1, ← List.drop_drop]; exact h2, h3, ?_⟩
      intro qs us Oq hq ht hR hd hle
      rw [e1] at ht hR hle
      rw [e2] at hd
      have ht0 : us.take sz = vs.take sz := by
        have := congrArg (List.take sz) ht
        simpa [List.take_take, Nat.min_eq_left (Nat.le_add_right sz (i * sz))] using this
      have h3 := h4 qs (us.drop sz) Oq hq
        (by have := congrArg (List.drop sz) ht; simpa [List.drop_take] using this)
        (by rw [List.drop_drop]; exact hR) (by rw [List.drop_drop, List.drop_drop]; exact hd)
        (by rw [List.length_drop]; omega)
      rw [List.set_cons_succ, List.append_assoc, List.append_assoc]
      rw [List.append_assoc] at h3
      exact .cons hl (RL.pre h us (by rw [hl]; exact ht0)) h3
end
end Go.Aix
