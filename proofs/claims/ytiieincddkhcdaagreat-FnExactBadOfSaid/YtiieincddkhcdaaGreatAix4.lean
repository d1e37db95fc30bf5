/-
  THE CALCULUS, TWENTY-SEVENTH TEXT: what a law is handed, read as values.
-/
import Derived.Test.YtiieincddkhcdaaGreatAix3
import GoSem.ClaimChange
import Derived.Test.YtiieincddkhcdaaGreatAix2
set_option linter.unusedSimpArgs false
set_option linter.unusedVariables false
namespace Go.Aix
inductive Sh where
  | int (k : IntKind)
  | bool
  | str
  | slice (e : Sh)
  | struct (fs : List Sh)
  deriving Inhabited
mutual
def Sh.size : Sh → Nat
  | .int _ => 1
  | .bool => 1
  | .str => 1
  | .slice _ => 1
  | .struct fs => Sh.sizes fs
def Sh.sizes : List Sh → Nat
  | [] => 0
  | s :: r => s.size + Sh.sizes r
end
mutual
def Sh.ok (P : Program) : Sh → TypeId → Bool
  | .int k, t => match P.underlying t with
    | some (.int k') => decide (k = k') && Nat.beq (P.cellsOf t) 1
    | _ => false
  | .bool, t => match P.underlying t with
    | some .bool => Nat.beq (P.cellsOf t) 1
    | _ => false
  | .str, t => match P.underlying t with
    | some .string => Nat.beq (P.cellsOf t) 1
    | _ => false
  | .slice e, t => match P.underlying t with
    | some (.slice u) => Sh.ok P e u && Nat.beq (P.cellsOf t) 1 && Nat.blt 0 (P.cellsOf u)
    | _ => false
  | .struct fs, t => match P.underlying t with
    | some (.struct gs) => Sh.oks P fs 0 gs.toList && Nat.beq (P.cellsOf t) (Sh.sizes fs)
    | _ => false
def Sh.oks (P : Program) : List Sh → Nat → List Field → Bool
  | [], _, gs => gs.isEmpty
  | s :: r, off, gs => match gs with
    | [] => false
    | g :: gs => Nat.beq g.offset off && Sh.ok P s g.type && Sh.oks P r (off + s.size) gs
end
mutual
def Sh.has : Sh → List PV → Bool
  | .int k, ps => match ps with
    | [.sc (.int k' n)] => decide (k' = k) && (Lit.int k n).wf
    | _ => false
  | .bool, ps => match ps with
    | [.sc (.bool _)] => true
    | _ => false
  | .str, ps => match ps with
    | [.sc (.string s)] => Nat.ble s.size maxLen
    | _ => false
  | .slice e, ps => match ps with
    | [.sl false sz es] => Nat.beq sz e.size && es.all (fun x => e.has x) && Nat.ble es.length maxLen
    | _ => false
  | .struct fs, ps => Sh.hass fs ps
def Sh.hass : List Sh → List PV → Bool
  | [], ps => ps.isEmpty
  | s :: r, ps => s.has (ps.take s.size) && Sh.hass r (ps.drop s.size)
end
section
variable {P : Program} {w : World} {H : Type} {enc : TypeId × Value → H} {spare : Nat → Bool} {held : Bool}
theorem cells_blk {a : Addr} {n : Nat} {cs : List Value} (h : w.cells? 0 a n = some cs) (hn : 0 < n) : ∃ l, blk w a.block = some l ∧ a.spot = none ∧ cs = (l.drop a.off).take n ∧ a.off + n ≤ l.length := by
  unfold World.cells? at h
  rw [if_pos (Nat.zero_le _)] at h
  obtain ⟨h1, h2⟩ := mapM_get h
  have hl : cs.length = n := by simpa using h1
  have each : ∀ k, k < n → ∃ v, cs[k]? = some v ∧ w.cell? (a.add k) = some v := by
    intro k hk
    obtain ⟨v, hv⟩ : ∃ v, cs[k]? = some v := ⟨_, List.getElem?_eq_getElem (by omega)⟩
    obtain ⟨k', hk', hc⟩ := h2 k v hv
    have : k' = k := by
      have := List.getElem?_range (n := n) (i := k) (by omega)
      rw [this] at hk'
      exact (Option.some.inj hk').symm
    subst this
    exact ⟨v, hv, hc⟩
  obtain ⟨v0, hv0, hc0⟩ := each 0 hn
  have ha0 : a.add 0 = a := by unfold Addr.add; simp
  rw [ha0] at hc0
  unfold World.cell? at hc0
  split at hc0
  · rename_i c ty fr hb
    split at hc0
    · cases hc0
    · rename_i hs
      have hs : a.spot = none := by simpa using hs
      have hblk : blk w a.block = some c.toList := by unfold blk; rw [hb]
      obtain ⟨b, off, sp⟩ := a
      dsimp only at hs hb hblk hc0
      subst hs
      have get : ∀ k, k < n → c.toList[off + k]? = cs[k]? := by
        intro k hk
        obtain ⟨v, hv, hc⟩ := each k hk
        rw [addr_add, cell_of_blk hblk] at hc
        rw [hc, hv]
      have hlen : off + n ≤ c.toList.length := by
        have := get (n - 1) (by omega)
        rw [List.getElem?_eq_getElem (by omega : n - 1 < cs.length)] at this
        have := (List.getElem?_eq_some_iff.1 this).1
        omega
      refine ⟨c.toList, hblk, rfl, ?_, hlen⟩
      apply List.ext_getElem?
      intro k
      by_cases hk : k < n
      · rw [List.getElem?_take_of_lt hk, List.getElem?_drop, get k hk]
      · rw [List.getElem?_eq_none (by omega), List.getElem?_eq_none (by rw [List.length_take]; omega)]
  · cases hc0
end
end Go.Aix
/-
  THE CALCULUS, TWENTY-EIGHTH TEXT: calls stepped through in place, and how a function's contract is laid before its callers.
-/
namespace Go.Aix
def Out.toR : Out → R (AV × Store × Nat)
  | .ret r S => endR r S
  | .ask b k => .ask b fun t => (k t).toR
  | .must b k => .must b k.toR
  | _ => .stuck
def Sound (P : Program) (g : FuncId) (F : List AV → R (AV × Store × Nat)) : Prop := Enters P g ∧ ∀ args r σ n, (F args).val = some (r, σ, n) → Ok0 P g args r σ n
section
variable {P : Program} {X : Ctx} {Y : CallsA} {E : Ent} {L N : List Nat → St → Prop}
theorem Out.toR_holds (h0 : E.n0 = 0) {r : AV} {σ : Store} {n : Nat} : ∀ {o : Out}, o.toR.val = some (r, σ, n) → o.holds (Ended E (Back E r σ n)) L N
  | .ret r' S, e => Ended_of h0 e
  | .ask b k, e => by
    have e : ((k b).toR).val = some (r, σ, n) := e
    constructor
    · intro hb; subst hb; exact Out.toR_holds h0 e
    · intro hb; subst hb; exact Out.toR_holds h0 e
  | .must b k, e => by
    have e : (if b = true then k.toR.val else none) = some (r, σ, n) := e
    split at e
    · rename_i hb; exact ⟨hb, Out.toR_holds h0 e⟩
    · cases e
  | .loop _ _, e => by simp [Out.toR, val_stuck] at e
  | .any _ _, e => by simp [Out.toR, val_stuck] at e
  | .eqs _ _ _, e => by simp [Out.toR, val_stuck] at e
  | .both _, e => by simp [Out.toR, val_stuck] at e
  | .stuck, e => by simp [Out.toR, val_stuck] at e
def inl (X : Ctx) (I : Ops) (Y : CallsA) (fn : Func) (args : List AV) : R (AV × Store × Nat) := match Nat.ble (lenA0 args) fn.ntmps with
  | true => (go X I Y fn.results.toList 2000 (start [] (bodyOf fn) [] []) (S0 args)).toR
  | false => .stuck
theorem Sound.inl {g : FuncId} {fn : Func} (hX : XOk P X) (hY : CallsOk P Y) (he : Enters P g) (hf : P.funcs[g]? = some fn) (hb : hasBody fn = true) (hin : codeIn fn.ntmps (bodyOf fn) = true) {I : Ops} (hI : I = real) : Sound P g (inl X I Y fn) := by
  refine ⟨he, fun args r σ n e => ?_⟩
  unfold Aix.inl at e
  split at e
  · rename_i hn
    exact Ok0_run hX hY hf hb hn hin 2000 hI fun w Xs => Out.toR_holds rfl e
  · simp [val_stuck] at e
def callRd (I : Ops) (F : List AV → R (AV × Store × Nat)) (args : List AV) (S : St) : R (AV × St) := do
  let vs ← viewAs I S args
  let x ← F vs
  match bareA x.1 with
  | true => .ok (x.1, S)
  | false => .stuck
theorem EntryOk.rd {g : FuncId} {F : List AV → R (AV × Store × Nat)} (h : Sound P g F) {I : Ops} (hI : I = real) : EntryOk P g (callRd I F) := by
  subst hI
  refine ⟨h.1, fun args S r S' e => ?_⟩
  refine callSnap_ok (F := fun vs => (F vs).bind fun x => .ok x.1) ?_ (args := args) ?_
  · intro args r e
    rw [val_bind] at e
    obtain ⟨⟨r', σ, n⟩, h1, e⟩ := some_bind e
    obtain rfl := Option.some.inj e
    exact ⟨σ, n, h.2 _ _ _ _ h1⟩
  · unfold callRd at e
    unfold callSnap
    rw [val_do] at e ⊢
    obtain ⟨vs, h1, e⟩ := some_bind e
    rw [h1]
    show (do let r ← (F vs).bind fun x => .ok x.1; match bareA r with | true => R.ok (r, S) | false => .stuck : R (AV × St)).val = _
    rw [val_do] at e ⊢
    obtain ⟨x, h2, e⟩ := some_bind e
    rw [val_bind, h2]
    exact e
theorem viewC_congr {I : Ops} {S S2 : St} (h : S2.σ = S.σ) (c : Cell) : viewC I S2 c = viewC I S c := by unfold viewC; rw [h]
theorem viewCs_congr {I : Ops} {S S2 : St} (h : S2.σ = S.σ) : ∀ l : List Cell, viewCs I S2 l = viewCs I S l
  | [] => rfl
  | c :: r => by unfold viewCs; rw [viewC_congr h, viewCs_congr h r]
theorem viewA_congr {I : Ops} {S S2 : St} (h : S2.σ = S.σ) (c : AV) : viewA I S2 c = viewA I S c := by
  unfold viewA
  simp only [viewC_congr h, viewCs_congr h]
theorem viewAs_congr {I : Ops} {S S2 : St} (h : S2.σ = S.σ) : ∀ l : List AV, viewAs I S2 l = viewAs I S l
  | [] => rfl
  | c :: r => by unfold viewAs; rw [viewA_congr h, viewAs_congr h r]
theorem callRd_quiet (I : Ops) (F : List AV → R (AV × Store × Nat)) : Quiet (callRd I F) := by
  intro args S r S' e
  unfold callRd at e
  rw [val_do] at e
  obtain ⟨vs, h1, e⟩ := some_bind e
  rw [val_do] at e
  obtain ⟨x, h2, e⟩ := some_bind e
  split at e
  · rename_i hb
    simp only [val_ok, Option.some.injEq, Prod.mk.injEq] at e
    obtain ⟨rfl, rfl⟩ := e
    refine ⟨rfl, fun S2 hσ => ?_⟩
    unfold callRd
    rw [val_do, viewAs_congr hσ, h1]
    show (do let x ← F vs; match bareA x.1 with | true => R.ok (x.1, S2) | false => .stuck : R (AV × St)).val = _
    rw [val_do, h2]
    simp only [Option.bind_some, hb, val_ok]
  · simp [val_stuck] at e
theorem notQuiet {y : List AV → St → R (AV × St)} : false = true → Quiet y := fun h => nomatch h
theorem EntryOk.own {g : FuncId} {F : List AV → R (AV × Store × Nat)} (h : Sound P g F) {I : Ops} (hI : I = real) : EntryOk P g (callIce I F) := EntryOk.ice h.1 h.2 hI
theorem EntryOk.pl {g : FuncId} {F : List AV → R (AV × Store × Nat)} (h : Sound P g F) : EntryOk P g (callPlain F) := EntryOk.plain h.1 h.2
def callPv (F : List AV → R (AV × Store × Nat)) (args : List AV) (S : St) : R (AV × St) := match plainAs args with
  | true => do
    let x ← F args
    match x.2.1 with
    | [] => match plainA x.1 with
      | true => .ok (x.1, S)
      | false => .stuck
    | _ => .stuck
  | false => .stuck
theorem callPv_quiet (F : List AV → R (AV × Store × Nat)) : Quiet (callPv F) := by
  intro args S r S' e
  unfold callPv at e
  split at e
  · rename_i hp
    rw [val_do] at e
    obtain ⟨x, h2, e⟩ := some_bind e
    split at e
    · rename_i hσ0
      split at e
      · rename_i hb
        simp only [val_ok, Option.some.injEq, Prod.mk.injEq] at e
        obtain ⟨rfl, rfl⟩ := e
        refine ⟨rfl, fun S2 hσ => ?_⟩
        unfold callPv
        simp only [hp]
        rw [val_do, h2]
        simp only [Option.bind_some, hσ0, hb, val_ok]
      · simp [val_stuck] at e
    · simp [val_stuck] at e
  · simp [val_stuck] at e
theorem EntryOk.pv {g : FuncId} {F : List AV → R (AV × Store × Nat)} (h : Sound P g F) : EntryOk P g (callPv F) := by
  refine ⟨h.1, fun args S r S' e => ?_⟩
  intro E β O a w vs hr hv
  unfold callPv at e
  split at e
  · rename_i hp
    rw [val_do] at e
    obtain ⟨⟨r0, σ, n⟩, h2, e⟩ := some_bind e
    simp only at e
    split at e
    · split at e
      · rename_i hb
        simp only [val_ok, Option.some.injEq, Prod.mk.injEq] at e
        obtain ⟨rfl, rfl⟩ := e
        have hXs : ∀ b, Mof E β O S.σ b → b < w.heap.size := fun b hb => Mof_lt hr.mem hb
        refine (h.2 _ _ _ _ h2 w (Mof E β O S.σ) vs hXs (plainAs_sound hp hv)).mono ?_
        intro e w' he
        cases e with
        | returned u =>
          obtain ⟨β1, O1, m1, m2⟩ := he
          have hM : Mof (Ent0 w (Mof E β O S.σ)) β1 O1 [] = Mof E β O S.σ := by
            funext b
            apply propext
            constructor
            · rintro (h | ⟨c, ch, hc, _⟩)
              · exact h
              · simp [lk] at hc
            · exact fun h => .inl h
          rw [hM] at m2
          exact ⟨β, O, hr.grown (Grown.of m1), plainA_sound hb m2⟩
        | panicked => exact he.elim
        | outgrown => exact he.elim
      · simp [val_stuck] at e
    · simp [val_stuck] at e
  · simp [val_stuck] at e
def asSl (sz : Nat) : PV → R (List (List PV))
  | .nl => .ok []
  | .sl _ s es => match Nat.beq s sz with
    | true => .ok es
    | false => .stuck
  | _ => .stuck
end
end Go.Aix
/-
  THE CALCULUS: calls that are handed chunks to write.
-/
namespace Go.Aix
def EntR (w : World) (Xs : Nat → Prop) (β0 : Nat → Nat × Nat) (O0 : Nat → List Nat) (σ0 : Store) (n0 : Nat) : Ent :=
  ⟨w, Xs, fun b => ∃ c ch, lk c σ0 = some ch ∧ b ∈ (β0 c).1 :: O0 c, n0, β0⟩
def OkR (P : Program) (g : FuncId) (args : List AV) (σ0 : Store) (n0 : Nat) (r : AV) (σ : Store) (n : Nat) : Prop :=
  ∀ (w : World) (Xs : Nat → Prop) (β0 : Nat → Nat × Nat) (O0 : Nat → List Nat) (vs : List Value), Mem (EntR w Xs β0 O0 σ0 n0) β0 O0 σ0 n0 w →
    RAVs w (Mof (EntR w Xs β0 O0 σ0 n0) β0 O0 σ0) (envOf β0 σ0) args vs →
    Calls P g vs.toArray w fun
      | .returned u, w' => Back (EntR w Xs β0 O0 σ0 n0) r σ n u w'
      | _, _ => False
def endN (n0 : Nat) (r : AV) (S : St) : R (AV × Store × Nat) :=
  let k := keep S.σ n0 n0
  match reach S.σ 1000 (keptRefs S.σ k ++ r.refs) k n0 with
  | (ρ, nx) => match renOk n0 nx ρ with
    | true => .ok (renA ρ r, renS ρ S.σ ρ, nx)
    | false => .stuck
def Out.toN (n0 : Nat) : Out → R (AV × Store × Nat)
  | .ret r S => endN n0 r S
  | .ask b k => .ask b fun t => (k t).toN n0
  | .must b k => .must b (k.toN n0)
  | _ => .stuck
section
variable {P : Program} {X : Ctx} {Y : CallsA} {f : FuncId} {fn : Func} {b : Code} {E : Ent} {β : Nat → Nat × Nat} {O : Nat → List Nat} {S : St} {a : Act} {w : World}
theorem EndedN_of {r r' : AV} {σ : Store} {n : Nat} (e : (endN E.n0 r S).val = some (r', σ, n)) : Ended E (Back E r' σ n) r S := by
  intro β O a w u h hr
  unfold endN at e
  generalize hz : reach S.σ 1000 (keptRefs S.σ (keep S.σ E.n0 E.n0) ++ r.refs) (keep S.σ E.n0 E.n0) E.n0 = z at e
  simp only [hz] at e
  split at e
  · rename_i hok
    simp only [val_ok, Option.some.injEq, Prod.mk.injEq] at e
    obtain ⟨rfl, rfl, rfl⟩ := e
    obtain ⟨β', O', h1, h2⟩ := h.ren (live := []) hok
    exact ⟨β', O', h1.mem, h2 hr⟩
  · simp [val_stuck] at e
theorem OkR_of {args : List AV} {σ0 : Store} {n0 : Nat} {r : AV} {σ : Store} {n : Nat} (hf : P.funcs[f]? = some fn) (hb : fn.body = some b) (hn : Nat.ble (lenA0 args) fn.ntmps = true)
    (h : ∀ w Xs β0 O0, W P f fn (EntR w Xs β0 O0 σ0 n0) (Back (EntR w Xs β0 O0 σ0 n0) r σ n) (place b [] []) ⟨argT 0 args, σ0, n0⟩) : OkR P f args σ0 n0 r σ n := by
  intro w Xs β0 O0 vs hm hv
  have hl := hv.length
  rw [lenA0_eq] at hn
  have hn := Nat.le_of_ble_eq_true hn
  have hsz : (vs.toArray ++ Array.replicate (fn.ntmps - vs.toArray.size) undef).size = fn.ntmps := by simp; omega
  have hR : Rel (EntR w Xs β0 O0 σ0 n0) β0 O0 ⟨argT 0 args, σ0, n0⟩ { tmps := vs.toArray ++ Array.replicate (fn.ntmps - vs.toArray.size) undef, defers := [] } w := by
    refine ⟨hm, ?_, rfl⟩
    intro q av hq
    obtain ⟨_, h2⟩ := argT_lk hq
    rw [Nat.sub_zero] at h2
    obtain ⟨v, h3, h4⟩ := hv.get q av h2
    have hlt : q < vs.length := (List.getElem?_eq_some_iff.1 h3).1
    refine ⟨by rw [hsz]; omega, ?_⟩
    have : (vs.toArray ++ Array.replicate (fn.ntmps - vs.toArray.size) undef).getD q undef = v := by
      have h5 : (vs.toArray ++ Array.replicate (fn.ntmps - vs.toArray.size) undef)[q]? = some v := by
        rw [Array.getElem?_append_left (by simpa using hlt)]
        simpa using h3
      rw [Array.getD_eq_getD_getElem?, h5]; rfl
    show RAV w _ _ av _
    rw [this]
    exact h4
  have hat := h w Xs β0 O0 _ _ _ w hR hsz
  intro cs
  obtain ⟨v, w', fr, hB, hs, h1, h2⟩ := hat cs
  have hp : place b [] [] = [.code b] := by cases b <;> rfl
  have henter : Frame.enter P f vs.toArray .normal = (base f).at { tmps := vs.toArray ++ Array.replicate (fn.ntmps - vs.toArray.size) undef, defers := [] } [.code b] := by
    simp [Frame.enter, Frame.at, hf, hb, base]
  rw [hp] at hs
  rw [henter]
  exact ⟨.returned v, w', fr, hB, hs, h1, h2⟩
def newsR (k n0 : Nat) : Store → List (Nat × Nat)
  | [] => []
  | (l, _) :: r => match Nat.blt l n0 with
    | true => newsR k n0 r
    | false => (l, k + (l - n0)) :: newsR k n0 r
def swapR : List (Nat × Nat) → List (Nat × Nat)
  | [] => []
  | (o, l) :: r => (l, o) :: swapR r
def backS (ρ ρb : List (Nat × Nat)) (σ1 : Store) : Store → Store
  | [] => []
  | (c, ch) :: r => match lk c ρ with
    | some l => match lk l σ1 with
      | some x => (c, renK ρb x) :: backS ρ ρb σ1 r
      | none => (c, ch) :: backS ρ ρb σ1 r
    | none => (c, ch) :: backS ρ ρb σ1 r
def sameCh (I : Ops) : Chunk → Chunk → R Unit
  | .box cs, .box ds => match Nat.beq cs.length ds.length with
    | true => .ok ()
    | false => .stuck
  | .row sz es, .row sz' es' => match Nat.beq sz sz' with
    | true => demand (I.neq (I.len es) (I.len es'))
    | false => .stuck
  | _, _ => .stuck
def sameChs (I : Ops) (σ0 σ1 : Store) : List (Nat × Nat) → R Unit
  | [] => .ok ()
  | (_, l) :: r => match lk l σ0 with
    | some x => match lk l σ1 with
      | some y => do
        sameCh I x y
        sameChs I σ0 σ1 r
      | none => .stuck
    | none => .stuck
def handR (σ : Store) (args : List AV) : List (Nat × Nat) × Nat := reach σ 1000 (args.flatMap AV.refs) [] 0
def callRef (I : Ops) (F : List AV → Store → Nat → R (AV × Store × Nat)) (args : List AV) (S : St) : R (AV × St) := match handR S.σ args with
  | (ρ, n0) => match renOk 0 n0 ρ with
    | true => do
      let x ← F (args.map (renA ρ)) (renS ρ S.σ ρ) n0
      sameChs I (renS ρ S.σ ρ) x.2.1 ρ
      let ρb := swapR ρ ++ newsR S.next n0 x.2.1
      .ok (renA ρb x.1, ⟨S.T, backS ρ ρb x.2.1 S.σ ++ renS ρb x.2.1 (newsR S.next n0 x.2.1), S.next + (x.2.2 - n0)⟩)
    | false => .stuck
theorem sameCh_spec {x y : Chunk} {u : Unit} (e : (sameCh real x y).val = some u) : y.sz = x.sz ∧ y.cnt = x.cnt := by
  unfold sameCh at e
  split at e
  · split at e
    · rename_i h
      exact ⟨(beq_eq h).symm, rfl⟩
    · simp [val_stuck] at e
  · split at e
    · rename_i h
      have h := beq_eq h
      subst h
      have e : (if real.neq (real.len _) (real.len _) = true then some () else none) = some u := e
      split at e
      · rename_i hd
        exact ⟨rfl, (of_decide_eq_true hd).symm⟩
      · cases e
    · simp [val_stuck] at e
  · simp [val_stuck] at e
theorem sameChs_spec {σ0 σ1 : Store} : ∀ {ρ : List (Nat × Nat)} {u : Unit}, (sameChs real σ0 σ1 ρ).val = some u → ∀ o l, (o, l) ∈ ρ → ∃ x y, lk l σ0 = some x ∧ lk l σ1 = some y ∧ y.sz = x.sz ∧ y.cnt = x.cnt
  | [], _, _, o, l, h => by simp at h
  | (o', l') :: r, u, e, o, l, h => by
    unfold sameChs at e
    split at e
    · rename_i x hx
      split at e
      · rename_i y hy
        rw [val_do] at e
        obtain ⟨_, h1, e⟩ := some_bind e
        rcases List.mem_cons.1 h with h | h
        · simp only [Prod.mk.injEq] at h
          obtain ⟨rfl, rfl⟩ := h
          exact ⟨x, y, hx, hy, (sameCh_spec h1).1, (sameCh_spec h1).2⟩
        · exact sameChs_spec e o l h
      · simp [val_stuck] at e
    · simp [val_stuck] at e
theorem newsR_mem {k n0 : Nat} : ∀ {σ : Store} {l m : Nat}, (l, m) ∈ newsR k n0 σ → n0 ≤ l ∧ m = k + (l - n0)
  | [], l, m, h => by simp [newsR] at h
  | (l', ch) :: r, l, m, h => by
    unfold newsR at h
    split at h
    · exact newsR_mem h
    · rename_i hb
      rcases List.mem_cons.1 h with e | h
      · simp only [Prod.mk.injEq] at e
        obtain ⟨rfl, rfl⟩ := e
        refine ⟨?_, rfl⟩
        rcases Nat.lt_or_ge l n0 with hlt | hge
        · have : Nat.blt l n0 = true := Nat.ble_eq_true_of_le hlt
          rw [this] at hb; cases hb
        · exact hge
      · exact newsR_mem h
theorem newsR_has {k n0 : Nat} : ∀ {σ : Store} {l : Nat} {ch : Chunk}, lk l σ = some ch → n0 ≤ l → (l, k + (l - n0)) ∈ newsR k n0 σ
  | [], l, ch, h, _ => by simp [lk] at h
  | (l', c') :: r, l, ch, h, hge => by
    unfold lk at h
    cases hb : Nat.beq l l' with
    | true =>
      have := beq_eq hb
      subst this
      have : Nat.blt l n0 = false := by
        cases hq : Nat.blt l n0 with
        | false => rfl
        | true => have := Nat.le_of_ble_eq_true hq; omega
      unfold newsR
      rw [this]
      exact List.mem_cons_self
    | false =>
      rw [hb] at h
      have := newsR_has (k := k) h hge
      unfold newsR
      split
      · exact this
      · exact List.mem_cons_of_mem _ this
theorem swapR_mem : ∀ {ρ : List (Nat × Nat)} {o l : Nat}, (l, o) ∈ swapR ρ ↔ (o, l) ∈ ρ
  | [], o, l => by simp [swapR]
  | (o', l') :: r, o, l => by
    unfold swapR
    simp only [List.mem_cons, Prod.mk.injEq, swapR_mem]
    constructor <;> rintro (⟨rfl, rfl⟩ | h) <;> simp_all
theorem backS_lk {ρ ρb : List (Nat × Nat)} {σ1 : Store} (c : Nat) : ∀ (σ : Store), lk c (backS ρ ρb σ1 σ) = match lk c σ with
    | none => none
    | some ch => match lk c ρ with
      | some l => match lk l σ1 with
        | some x => some (renK ρb x)
        | none => some ch
      | none => some ch
  | [] => rfl
  | (d, ch) :: r => by
    have ih := backS_lk (ρ := ρ) (ρb := ρb) (σ1 := σ1) c r
    unfold backS
    cases hb : Nat.beq c d with
    | true =>
      have := beq_eq hb
      subst this
      have e : lk c ((c, ch) :: r) = some ch := by simp [lk, hb]
      rw [e]
      cases h1 : lk c ρ with
      | none => simp [lk, hb]
      | some l =>
        simp only
        cases h2 : lk l σ1 with
        | none => simp [lk, hb]
        | some x => simp [lk, hb]
    | false =>
      have e : lk c ((d, ch) :: r) = lk c r := by simp [lk, hb]
      rw [e, ← ih]
      split
      · split <;> simp [lk, hb]
      · simp [lk, hb]
theorem lk_mem {α : Type} {k : Nat} {a : α} : ∀ {l : List (Nat × α)}, lk k l = some a → (k, a) ∈ l
  | [], h => by simp [lk] at h
  | (j, b) :: r, h => by
    unfold lk at h
    cases hb : Nat.beq k j with
    | true =>
      rw [hb] at h
      have := beq_eq hb
      subst this
      obtain rfl := Option.some.inj h
      exact List.mem_cons_self
    | false =>
      rw [hb] at h
      exact List.mem_cons_of_mem _ (lk_mem h)
theorem RAVs.ren {M M' : Nat → Prop} {env env' : EnvT} {ρ : List (Nat × Nat)} (t : Turn w w M M' (fun _ => False)) (he : ∀ o n, lk o ρ = some n → ∀ x, env o = some x → env' n = some x) : ∀ {l : List AV} {vs : List Value}, RAVs w M env l vs → RAVs w M' env' (l.map (renA ρ)) vs
  | _, _, .nil => .nil
  | _, _, .cons h hr => .cons (h.ren t he) (RAVs.ren t he hr)
theorem callRef_ok {g : FuncId} {F : List AV → Store → Nat → R (AV × Store × Nat)} (hF : ∀ args σ0 n0 r σ n, (F args σ0 n0).val = some (r, σ, n) → OkR P g args σ0 n0 r σ n) {args : List AV} {r : AV} {S' : St} (e : (callRef real F args S).val = some (r, S')) : CallOk P g args S r S' := by
  intro E β O a w vs h hv
  unfold callRef at e
  generalize handR S.σ args = z at e
  obtain ⟨ρ, n0⟩ := z
  simp only at e
  split at e
  case h_2 => simp [val_stuck] at e
  rename_i hok
  have ok := renOk_spec hok
  rw [val_do] at e
  obtain ⟨⟨r1, σ1, n1⟩, hF1, e⟩ := some_bind e
  rw [val_do] at e
  obtain ⟨u0, hsm, e⟩ := some_bind e
  simp only [val_ok, Option.some.injEq, Prod.mk.injEq] at e
  obtain ⟨rfl, rfl⟩ := e
  simp only at hsm ⊢
  generalize hσ0 : renS ρ S.σ ρ = σ0 at hF1 hsm
  generalize hρb : swapR ρ ++ newsR S.next n0 σ1 = ρb
  have lk0 : ∀ n x, lk n σ0 = some x → ∃ ch, (oldOf ρ n, n) ∈ ρ ∧ lk (oldOf ρ n) S.σ = some ch ∧ x = renK ρ ch := by
    intro n x hx
    rw [← hσ0] at hx
    obtain ⟨o, ch, h1, h2, h3⟩ := renS_lk hx
    have ho := ok.old n ⟨o, h1⟩
    have := ok.fun1 _ _ _ h1 ho
    subst this
    exact ⟨ch, ho, h2, h3⟩
  let β0 : Nat → Nat × Nat := fun n => β (oldOf ρ n)
  let O0 : Nat → List Nat := fun n => O (oldOf ρ n)
  let Hd : Nat → Prop := fun b => ∃ c ch, lk c σ0 = some ch ∧ b ∈ (β0 c).1 :: O0 c
  have HdE : ∀ b, Hd b → ∃ c l ch, (c, l) ∈ ρ ∧ lk c S.σ = some ch ∧ b ∈ (β c).1 :: O c := by
    rintro b ⟨l, x, hl, hb⟩
    obtain ⟨ch, h1, h2, _⟩ := lk0 l x hl
    exact ⟨_, l, ch, h1, h2, hb⟩
  let Xs : Nat → Prop := fun b => Mof E β O S.σ b ∧ ¬ Hd b
  have hlt : ∀ b, Mof E β O S.σ b → b < w.heap.size := fun b hb => Mof_lt h.mem hb
  have HM1 : ∀ b, Mof (EntR w Xs β0 O0 σ0 n0) β0 O0 σ0 b → Mof E β O S.σ b := by
    rintro b (hx | ⟨c, x, hc, e⟩)
    · exact hx.1
    · obtain ⟨ch, _, h2, _⟩ := lk0 c x hc
      exact .inr ⟨_, ch, h2, e⟩
  have t0 : Turn w w (Mof E β O S.σ) (Mof (EntR w Xs β0 O0 σ0 n0) β0 O0 σ0) (fun _ => False) := ⟨fun _ _ _ h => h, fun _ h => h.elim, fun b hb => .inl (HM1 b hb)⟩
  have he0 : ∀ o n, lk o ρ = some n → ∀ x, envOf β S.σ o = some x → envOf β0 σ0 n = some x := by
    intro o n hon x hx
    have hm := (ok.lkn o n).2 hon
    unfold envOf at *
    obtain ⟨ch, hch, hx⟩ := Option.map_eq_some_iff.1 hx
    obtain ⟨y, hy⟩ := renS_has (ρ' := ρ) hch hm
    rw [hσ0] at hy
    obtain ⟨ch', h1, h2, h3⟩ := lk0 n y hy
    have := ok.fun1 _ _ _ hm h1
    rw [← this] at h2
    rw [hch] at h2
    obtain rfl := Option.some.inj h2
    rw [hy, h3, Option.map_some, (renK_sz ρ ch).1, (renK_sz ρ ch).2]
    show some ((β (oldOf ρ n)).1, ch.sz, ch.cnt, (β (oldOf ρ n)).2) = some x
    rw [← this, hx]
  have hm0 : Mem (EntR w Xs β0 O0 σ0 n0) β0 O0 σ0 n0 w := by
    refine ⟨?_, ?_, ?_, ?_, ?_, rfl, rfl, rfl, Nat.le_refl _, fun _ _ _ => rfl, fun b hb => hlt b hb.1, Nat.le_refl _, fun _ _ _ _ => rfl⟩
    · intro c x hc
      obtain ⟨ch, h1, h2, _⟩ := lk0 c x hc
      exact ok.lt _ _ h1
    · intro c x hc
      obtain ⟨ch, h1, h2, rfl⟩ := lk0 c x hc
      exact (h.mem.chunk _ ch h2).ren t0 he0
    · intro c x hc
      obtain ⟨ch, h1, h2, rfl⟩ := lk0 c x hc
      exact h.mem.nodup _ ch h2
    · intro c d x y hc hd hne
      obtain ⟨ch, h1, h2, _⟩ := lk0 c x hc
      obtain ⟨dh, h3, h4, _⟩ := lk0 d y hd
      exact h.mem.disj _ _ ch dh h2 h4 (fun e => hne (ok.inj _ _ _ h1 (e ▸ h3)))
    · intro c x hc b hb
      exact ⟨fun hX => hX.2 ⟨c, x, hc, hb⟩, .inl ⟨c, x, hc, hb⟩⟩
  refine ((hF _ _ _ _ _ _ hF1) w Xs β0 O0 vs hm0 (RAVs.ren t0 he0 hv)).mono ?_
  intro ending w' hend
  cases ending with
  | panicked => exact hend.elim
  | outgrown => exact hend.elim
  | returned u =>
  obtain ⟨β1, O1, m1, v1⟩ := hend
  have hsame : ∀ c l, (c, l) ∈ ρ → ∃ ch y, lk c S.σ = some ch ∧ lk l σ1 = some y ∧ y.sz = ch.sz ∧ y.cnt = ch.cnt ∧ l < n0 ∧ β1 l = β c := by
    intro c l hm
    obtain ⟨x, y, hx, hy, e1, e2⟩ := sameChs_spec hsm c l hm
    obtain ⟨ch, h1, h2, rfl⟩ := lk0 l x hx
    have hcl := ok.fun1 _ _ _ hm h1
    have hl := ok.lt _ _ hm
    refine ⟨ch, y, by rw [hcl]; exact h2, hy, by rw [e1, (renK_sz ρ ch).1], by rw [e2, (renK_sz ρ ch).2], hl, ?_⟩
    rw [m1.fix l y hl hy]
    show β (oldOf ρ l) = β c
    rw [← hcl]
  generalize hσ' : backS ρ ρb σ1 S.σ ++ renS ρb σ1 (newsR S.next n0 σ1) = σ'
  have C1 : ∀ c x, lk c σ' = some x → (c < S.next ∧ lk c ρ = none ∧ lk c S.σ = some x) ∨ (∃ l ch1, ((c < S.next ∧ (c, l) ∈ ρ) ∨ (n0 ≤ l ∧ c = S.next + (l - n0))) ∧ lk l σ1 = some ch1 ∧ x = renK ρb ch1) := by
    intro c x hc
    rw [← hσ', lk_app, backS_lk] at hc
    cases e1 : lk c S.σ with
    | none =>
      simp only [e1] at hc
      obtain ⟨l, ch1, g1, g2, g3⟩ := renS_lk hc
      obtain ⟨q1, q2⟩ := newsR_mem g1
      exact .inr ⟨l, ch1, .inr ⟨q1, q2⟩, g2, g3⟩
    | some ch =>
      have hcn := h.mem.keys c ch e1
      cases e2 : lk c ρ with
      | none =>
        simp only [e1, e2, Option.some.injEq] at hc
        subst hc
        exact .inl ⟨hcn, rfl, rfl⟩
      | some l =>
        have hm := (ok.lkn c l).2 e2
        obtain ⟨ch', y, q1, q2, _⟩ := hsame c l hm
        simp only [e1, e2, q2, Option.some.injEq] at hc
        exact .inr ⟨l, y, .inl ⟨hcn, hm⟩, q2, hc.symm⟩
  have A2 : ∀ c x, lk c ρ = none → lk c S.σ = some x → lk c σ' = some x := by
    intro c x h1 h2
    rw [← hσ', lk_app, backS_lk]
    simp only [h1, h2]
  have B2 : ∀ c l y, (c, l) ∈ ρ → lk l σ1 = some y → lk c σ' = some (renK ρb y) := by
    intro c l y hm hy
    obtain ⟨ch, y', q1, q2, _⟩ := hsame c l hm
    rw [← hσ', lk_app, backS_lk]
    simp only [q1, (ok.lkn c l).1 hm, hy]
  have D2 : ∀ l y, n0 ≤ l → lk l σ1 = some y → lk (S.next + (l - n0)) σ' = some (renK ρb y) := by
    intro l y hl hy
    have hn : lk (S.next + (l - n0)) S.σ = none := by
      cases e : lk (S.next + (l - n0)) S.σ with
      | none => rfl
      | some y => have := h.mem.keys _ y e; omega
    obtain ⟨x, hx⟩ := renS_has (ρ' := ρb) hy (newsR_has (k := S.next) hy hl)
    rw [← hσ', lk_app, backS_lk]
    simp only [hn]
    obtain ⟨l', ch', g1, g2, g3⟩ := renS_lk hx
    obtain ⟨q1, q2⟩ := newsR_mem g1
    have : l' = l := by omega
    subst this
    rw [hy] at g2
    obtain rfl := Option.some.inj g2
    rw [hx, g3]
  let src : Nat → Option Nat := fun c => if c < S.next then lk c ρ else some (n0 + (c - S.next))
  let β' : Nat → Nat × Nat := fun c => match src c with
    | some l => β1 l
    | none => β c
  let O' : Nat → List Nat := fun c => match src c with
    | some l => O1 l
    | none => O c
  have bo : ∀ c, src c = none → β' c = β c ∧ O' c = O c := fun c hc => by
    constructor
    · show (match src c with | some l => β1 l | none => β c) = β c
      rw [hc]
    · show (match src c with | some l => O1 l | none => O c) = O c
      rw [hc]
  have bl : ∀ c l, src c = some l → β' c = β1 l ∧ O' c = O1 l := fun c l hc => by
    constructor
    · show (match src c with | some l => β1 l | none => β c) = β1 l
      rw [hc]
    · show (match src c with | some l => O1 l | none => O c) = O1 l
      rw [hc]
  have srcLt : ∀ c l, (c, l) ∈ ρ → src c = some l := by
    intro c l hm
    obtain ⟨ch, y, q1, _⟩ := hsame c l hm
    show (if c < S.next then lk c ρ else _) = _
    rw [if_pos (h.mem.keys c ch q1)]
    exact (ok.lkn c l).1 hm
  have srcGe : ∀ l, n0 ≤ l → src (S.next + (l - n0)) = some l := by
    intro l hl
    show (if S.next + (l - n0) < S.next then _ else _) = _
    rw [if_neg (by omega)]
    congr 1
    omega
  have srcInj : ∀ c d l, src c = some l → src d = some l → c = d := by
    intro c d l hc hd
    have hc : (if c < S.next then lk c ρ else some (n0 + (c - S.next))) = some l := hc
    have hd : (if d < S.next then lk d ρ else some (n0 + (d - S.next))) = some l := hd
    split at hc <;> split at hd
    · exact ok.fun1 _ _ _ ((ok.lkn c l).2 hc) ((ok.lkn d l).2 hd)
    · have := ok.lt _ _ ((ok.lkn c l).2 hc)
      have := Option.some.inj hd
      omega
    · have := ok.lt _ _ ((ok.lkn d l).2 hd)
      have := Option.some.inj hc
      omega
    · have := Option.some.inj hc
      have := Option.some.inj hd
      omega
  have K : ∀ c x, lk c σ' = some x → (src c = none ∧ c < S.next ∧ lk c ρ = none ∧ lk c S.σ = some x) ∨ (∃ l ch1, src c = some l ∧ lk l σ1 = some ch1 ∧ x = renK ρb ch1) := by
    intro c x hc
    rcases C1 c x hc with ⟨g1, g2, g3⟩ | ⟨l, ch1, hor, g2, g3⟩
    · refine .inl ⟨?_, g1, g2, g3⟩
      show (if c < S.next then lk c ρ else _) = none
      rw [if_pos g1, g2]
    · refine .inr ⟨l, ch1, ?_, g2, g3⟩
      rcases hor with ⟨_, hm⟩ | ⟨hl, rfl⟩
      · exact srcLt c l hm
      · exact srcGe l hl
  -- blocks
  have P1 : ∀ l y, lk l σ1 = some y → ∀ b ∈ (β1 l).1 :: O1 l, Hd b ∨ w.heap.size ≤ b := fun l y hy b hb => (m1.own l y hy b hb).2
  have old : ∀ d dh, lk d S.σ = some dh → lk d ρ = none → ∀ b ∈ (β d).1 :: O d, b < w.heap.size ∧ ¬ Hd b := by
    intro d dh hd hn b hb
    refine ⟨(h.mem.chunk d dh hd).lt b hb, fun hh => ?_⟩
    obtain ⟨c, l, ch, g1, g2, g3⟩ := HdE b hh
    have hne : c ≠ d := fun e => by subst e; rw [(ok.lkn _ _).1 g1] at hn; cases hn
    exact h.mem.disj c d ch dh g2 hd hne b g3 hb
  have HM2 : ∀ b, Mof E β' O' σ' b → Mof (EntR w Xs β0 O0 σ0 n0) β1 O1 σ1 b := by
    rintro b (hX | ⟨c, x, hc, e⟩)
    · refine .inl ⟨.inl hX, fun hh => ?_⟩
      obtain ⟨c, l, ch, _, g2, g3⟩ := HdE b hh
      exact (h.mem.own c ch g2 b g3).1 hX
    · rcases K c x hc with ⟨k1, k2, k3, k4⟩ | ⟨l, ch1, k1, k2, _⟩
      · rw [(bo c k1).1, (bo c k1).2] at e
        exact .inl ⟨.inr ⟨c, x, k4, e⟩, (old c x k4 k3 b e).2⟩
      · rw [(bl c l k1).1, (bl c l k1).2] at e
        exact .inr ⟨l, ch1, k2, e⟩
  have keepB : ∀ b, b < w.heap.size → ¬ Hd b → w'.heap[b]? = w.heap[b]? := fun b hb hd => m1.frame b hb hd
  have HdM : ∀ b, Hd b → Mof E β O S.σ b := fun b hb => by
    obtain ⟨c, l, ch, _, g2, g3⟩ := HdE b hb
    exact .inr ⟨c, ch, g2, g3⟩
  have t1 : Turn w w' (Mof E β O S.σ) (Mof E β' O' σ') Hd := by
    refine ⟨fun b o hd hb => ?_, HdM, fun b hb => ?_⟩
    · rcases Nat.lt_or_ge b w.heap.size with h' | h'
      · rw [keepB b h' hd]; exact hb
      · rw [Array.getElem?_eq_none h'] at hb; cases hb
    · rcases hb with hX | ⟨c, x, hc, e⟩
      · exact .inl (.inl hX)
      · rcases K c x hc with ⟨k1, k2, k3, k4⟩ | ⟨l, ch1, k1, k2, _⟩
        · rw [(bo c k1).1, (bo c k1).2] at e
          exact .inl (.inr ⟨c, x, k4, e⟩)
        · rw [(bl c l k1).1, (bl c l k1).2] at e
          rcases P1 l ch1 k2 b e with hh | hz
          · exact .inl (HdM b hh)
          · refine .inr ?_
            unfold Aix.blk
            rw [Array.getElem?_eq_none hz]
  have t2 : Turn w' w' (Mof (EntR w Xs β0 O0 σ0 n0) β1 O1 σ1) (Mof E β' O' σ') (fun _ => False) := ⟨fun _ _ _ h => h, fun _ h => h.elim, fun b hb => .inl (HM2 b hb)⟩
  have e1 : ∀ c x, envOf β S.σ c = some x → envOf β' σ' c = some x := by
    intro c x hc
    unfold envOf at *
    obtain ⟨ch, hch, hx⟩ := Option.map_eq_some_iff.1 hc
    cases e : lk c ρ with
    | none =>
      have hn : src c = none := by
        show (if c < S.next then lk c ρ else _) = none
        rw [if_pos (h.mem.keys c ch hch), e]
      rw [A2 c ch e hch, (bo c hn).1, Option.map_some, hx]
    | some l =>
      have hm := (ok.lkn c l).2 e
      obtain ⟨ch', y, q1, q2, q3, q4, q5, q6⟩ := hsame c l hm
      rw [hch] at q1
      obtain rfl := Option.some.inj q1
      rw [B2 c l y hm q2, (bl c l (srcLt c l hm)).1, q6, Option.map_some, (renK_sz ρb y).1, (renK_sz ρb y).2, q3, q4, hx]
  have e2 : ∀ o n, lk o ρb = some n → ∀ x, envOf β1 σ1 o = some x → envOf β' σ' n = some x := by
    intro o n hon x hx
    unfold envOf at *
    obtain ⟨ch, hch, hx⟩ := Option.map_eq_some_iff.1 hx
    have hm := lk_mem hon
    rw [← hρb] at hm
    have : src n = some o ∧ lk n σ' = some (renK ρb ch) := by
      rcases List.mem_append.1 hm with hm | hm
      · have hm := swapR_mem.1 hm
        exact ⟨srcLt n o hm, B2 n o ch hm hch⟩
      · obtain ⟨q1, q2⟩ := newsR_mem hm
        subst q2
        exact ⟨srcGe o q1, D2 o ch q1 hch⟩
    rw [this.2, (bl n o this.1).1, Option.map_some, (renK_sz ρb ch).1, (renK_sz ρb ch).2, hx]
  refine ⟨β', O', ⟨?_, ?_, h.nodef⟩, v1.ren t2 e2⟩
  · constructor
    · intro c x hc
      show c < S.next + (n1 - n0)
      rcases C1 c x hc with ⟨g1, _⟩ | ⟨l, ch1, hor, g2, _⟩
      · omega
      · rcases hor with ⟨g1, _⟩ | ⟨hl, rfl⟩
        · omega
        · have := m1.keys l ch1 g2
          omega
    · intro c x hc
      rcases K c x hc with ⟨k1, k2, k3, k4⟩ | ⟨l, ch1, k1, k2, rfl⟩
      · rw [(bo c k1).1, (bo c k1).2]
        have hD : ∀ b ∈ (β c).1 :: O c, ¬ Hd b := fun b hb => (old c x k4 k3 b hb).2
        exact (h.mem.chunk c x k4).turn t1 e1 (fun b hb => hD b (List.mem_cons_of_mem _ hb)) (keepB _ (old c x k4 k3 _ List.mem_cons_self).1 (hD _ List.mem_cons_self))
      · rw [(bl c l k1).1, (bl c l k1).2]
        exact (m1.chunk l ch1 k2).ren t2 e2
    · intro c x hc
      rcases K c x hc with ⟨k1, k2, k3, k4⟩ | ⟨l, ch1, k1, k2, rfl⟩
      · rw [(bo c k1).1, (bo c k1).2]; exact h.mem.nodup c x k4
      · rw [(bl c l k1).1, (bl c l k1).2]; exact m1.nodup l ch1 k2
    · intro c d x y hc hd hne b hb
      rcases K c x hc with ⟨k1, k2, k3, k4⟩ | ⟨l, ch1, k1, k2, rfl⟩
      · rw [(bo c k1).1, (bo c k1).2] at hb
        rcases K d y hd with ⟨j1, j2, j3, j4⟩ | ⟨l', dh1, j1, j2, rfl⟩
        · rw [(bo d j1).1, (bo d j1).2]; exact h.mem.disj c d x y k4 j4 hne b hb
        · rw [(bl d l' j1).1, (bl d l' j1).2]
          intro hm
          obtain ⟨q1, q2⟩ := old c x k4 k3 b hb
          rcases P1 l' dh1 j2 b hm with hh | hh
          · exact q2 hh
          · omega
      · rw [(bl c l k1).1, (bl c l k1).2] at hb
        rcases K d y hd with ⟨j1, j2, j3, j4⟩ | ⟨l', dh1, j1, j2, rfl⟩
        · rw [(bo d j1).1, (bo d j1).2]
          intro hm
          obtain ⟨q1, q2⟩ := old d y j4 j3 b hm
          rcases P1 l ch1 k2 b hb with hh | hh
          · exact q2 hh
          · omega
        · rw [(bl d l' j1).1, (bl d l' j1).2]
          exact m1.disj l l' ch1 dh1 k2 j2 (fun e => hne (srcInj c d l k1 (e ▸ j1))) b hb
    · intro c x hc b hb
      rcases K c x hc with ⟨k1, k2, k3, k4⟩ | ⟨l, ch1, k1, k2, rfl⟩
      · rw [(bo c k1).1, (bo c k1).2] at hb; exact h.mem.own c x k4 b hb
      · rw [(bl c l k1).1, (bl c l k1).2] at hb
        rcases P1 l ch1 k2 b hb with hh | hh
        · obtain ⟨d, l', ch, _, g2, g3⟩ := HdE b hh
          exact h.mem.own d ch g2 b g3
        · have hs := h.mem.size
          exact ⟨fun hX => by have := h.mem.xlt b hX; omega, .inr (by omega)⟩
    · exact m1.os.trans h.mem.os
    · exact m1.tape.trans h.mem.tape
    · exact m1.output.trans h.mem.output
    · exact Nat.le_trans h.mem.size m1.size
    · intro b hb hz
      have hs := h.mem.size
      rw [keepB b (by omega) ?_]
      · exact h.mem.frame b hb hz
      · intro hh
        obtain ⟨c, l, ch, _, g2, g3⟩ := HdE b hh
        rcases (h.mem.own c ch g2 b g3).2 with hq | hq
        · exact hz hq
        · omega
    · exact h.mem.xlt
    · exact Nat.le_trans h.mem.nxt (Nat.le_add_right _ _)
    · intro c x hlt hc
      have hl : c < S.next := Nat.lt_of_lt_of_le hlt h.mem.nxt
      rcases C1 c x hc with ⟨g1, g2, g3⟩ | ⟨l, ch1, hor, g2, _⟩
      · have hn : src c = none := by
          show (if c < S.next then lk c ρ else _) = none
          rw [if_pos g1, g2]
        rw [(bo c hn).1]
        exact h.mem.fix c x hlt g3
      · rcases hor with ⟨_, hm⟩ | ⟨hl', rfl⟩
        · obtain ⟨ch', y, q1, q2, q3, q4, q5, q6⟩ := hsame c l hm
          rw [(bl c l (srcLt c l hm)).1, q6]
          exact h.mem.fix c ch' hlt q1
        · omega
  · intro q av hq
    obtain ⟨g1, g2⟩ := h.slots q av hq
    exact ⟨g1, g2.turn t1 e1⟩
def SoundR (P : Program) (g : FuncId) (F : List AV → Store → Nat → R (AV × Store × Nat)) : Prop := Enters P g ∧ ∀ args σ0 n0 r σ n, (F args σ0 n0).val = some (r, σ, n) → OkR P g args σ0 n0 r σ n
theorem EntryOk.ref {g : FuncId} {F : List AV → Store → Nat → R (AV × Store × Nat)} (h : SoundR P g F) {I : Ops} (hI : I = real) : EntryOk P g (callRef I F) := by
  subst hI
  exact ⟨h.1, fun _ _ _ _ e => callRef_ok h.2 e⟩
theorem Out.toN_holds {L N : List Nat → St → Prop} {r : AV} {σ : Store} {n : Nat} : ∀ {o : Out}, (o.toN E.n0).val = some (r, σ, n) → o.holds (Ended E (Back E r σ n)) L N
  | .ret r' S, e => EndedN_of e
  | .ask b k, e => by
    have e : ((k b).toN E.n0).val = some (r, σ, n) := e
    constructor
    · intro hb; subst hb; exact Out.toN_holds e
    · intro hb; subst hb; exact Out.toN_holds e
  | .must b k, e => by
    have e : (if b = true then (k.toN E.n0).val else none) = some (r, σ, n) := e
    split at e
    · rename_i hb; exact ⟨hb, Out.toN_holds e⟩
    · cases e
  | .loop _ _, e => by simp [Out.toN, val_stuck] at e
  | .any _ _, e => by simp [Out.toN, val_stuck] at e
  | .eqs _ _ _, e => by simp [Out.toN, val_stuck] at e
  | .both _, e => by simp [Out.toN, val_stuck] at e
  | .stuck, e => by simp [Out.toN, val_stuck] at e
theorem OkR_run {X : Ctx} {Y : CallsA} {f : FuncId} {fn : Func} {args : List AV} {σ0 : Store} {n0 : Nat} {r : AV} {σ : Store} {n : Nat} (hX : XOk P X) (hY : CallsOk P Y) (hf : P.funcs[f]? = some fn) (hb : hasBody fn = true) (hn : Nat.ble (lenA0 args) fn.ntmps = true) (hin : codeIn fn.ntmps (bodyOf fn) = true) (k : Nat) {I : Ops} (hI : I = real)
    (h : ∀ w Xs β0 O0, (go X I Y fn.results.toList k (start [] (bodyOf fn) [] []) ⟨argT 0 args, σ0, n0⟩).holds (Ended (EntR w Xs β0 O0 σ0 n0) (Back (EntR w Xs β0 O0 σ0 n0) r σ n)) (fun p S => W P f fn (EntR w Xs β0 O0 σ0 n0) (Back (EntR w Xs β0 O0 σ0 n0) r σ n) (place (bodyOf fn) (p ++ [0]) []) S) (fun p S => W P f fn (EntR w Xs β0 O0 σ0 n0) (Back (EntR w Xs β0 O0 σ0 n0) r σ n) (place (bodyOf fn) p []) S)) :
    OkR P f args σ0 n0 r σ n :=
  OkR_of hf (bodyOf_eq hb) hn fun w Xs β0 O0 => W_go hX hY hf hin k [] hI (h w Xs β0 O0)
def inlR (X : Ctx) (I : Ops) (Y : CallsA) (fn : Func) (args : List AV) (σ0 : Store) (n0 : Nat) : R (AV × Store × Nat) := match Nat.ble (lenA0 args) fn.ntmps with
  | true => (go X I Y fn.results.toList 2000 (start [] (bodyOf fn) [] []) ⟨argT 0 args, σ0, n0⟩).toN n0
  | false => .stuck
theorem SoundR.inl {X : Ctx} {Y : CallsA} {g : FuncId} {fn : Func} (hX : XOk P X) (hY : CallsOk P Y) (he : Enters P g) (hf : P.funcs[g]? = some fn) (hb : hasBody fn = true) (hin : codeIn fn.ntmps (bodyOf fn) = true) {I : Ops} (hI : I = real) : SoundR P g (inlR X I Y fn) := by
  refine ⟨he, fun args σ0 n0 r σ n e => ?_⟩
  unfold inlR at e
  split at e
  · rename_i hn
    exact OkR_run hX hY hf hb hn hin 2000 hI fun w Xs β0 O0 => Out.toN_holds (E := EntR w Xs β0 O0 σ0 n0) e
  · simp [val_stuck] at e
end
end Go.Aix
/-
  THE CALCULUS: calls that are handed a row for good (an append to it, handed back).
-/
namespace Go.Aix
section
variable {P : Program} {E : Ent} {β : Nat → Nat × Nat} {O : Nat → List Nat} {S : St} {a : Act} {w : World}
end
end Go.Aix
/-
  THE CALCULUS: a call that looks at what it is handed, and hands back memory of its own that shares nothing.
-/
namespace Go.Aix
def purCell (I : Ops) : Cell → R Unit
  | .pv p => match p with
    | .sc _ => .ok ()
    | .nl => .ok ()
    | .sl _ _ es => match es with
      | [] => .ok ()
      | _ => .stuck
    | .dd => .ok ()
  | .ptr _ _ _ => .ok ()
  | .arr _ _ _ => .ok ()
  | .ep _ => .stuck
  | .fn _ _ => .ok ()
  | .top => .ok ()
def purCells (I : Ops) : List Cell → R Unit
  | [] => .ok ()
  | c :: r => do
    purCell I c
    purCells I r
def purA (I : Ops) : AV → R Unit
  | .one c => purCell I c
  | .ag cs => purCells I cs
  | .tp vs => purGs vs
where purGs : List (Bool × List Cell) → R Unit
  | [] => .ok ()
  | v :: r => do
    purCells I v.2
    purGs r
def purK (I : Ops) : Chunk → R Unit
  | .row _ es => .must (I.pur es) (.ok ())
  | .box cs => purCells I cs
  | .foc _ _ _ _ => .stuck
def purS (I : Ops) : Store → R Unit
  | [] => .ok ()
  | (_, ch) :: r => do
    purK I ch
    purS I r
def callVw (I : Ops) (F : List AV → R (AV × Store × Nat)) (args : List AV) (S : St) : R (AV × St) := do
  let vs ← viewAs I S args
  let x ← F vs
  purA I x.1
  purS I x.2.1
  .ok (renA (shiftR S.next x.2.1) x.1, adopt S x.2.1 x.2.2)
section
variable {P : Program} {E : Ent} {β : Nat → Nat × Nat} {O : Nat → List Nat} {S : St} {a : Act} {w w' : World} {M M' : Nat → Prop} {env : EnvT}
theorem purCell_sound {c : Cell} {v : Value} {u : Unit} (h : RCell w M env c v) (e : (purCell real c).val = some u) : RCell w M' env c v := by
  cases h with
  | pv h =>
    refine .pv ?_
    unfold purCell at e
    cases h with
    | sc h => exact .sc h
    | nl => exact .nl
    | nil => exact .nil
    | @sh sz b off cap es cs a hM hb hc hR =>
      cases es with
      | nil => exact absurd rfl a
      | cons => simp [val_stuck] at e
    | dd h => exact .dd h
  | ptr h hi => exact .ptr h hi
  | arr h hm hn hc => exact .arr h hm hn hc
  | ep => simp [purCell, val_stuck] at e
  | fn h => exact .fn h
  | top h => exact .top h
theorem purCells_sound : ∀ {cs : List Cell} {vs : List Value} {u : Unit}, RCs w M env cs vs → (purCells real cs).val = some u → RCs w M' env cs vs
  | [], _, _, h, _ => by cases h; exact .nil
  | c :: cs, _, _, h, e => by
    unfold purCells at e
    rw [val_do] at e
    obtain ⟨_, e1, e2⟩ := some_bind e
    cases h with
    | cons h hr => exact .cons (purCell_sound h e1) (purCells_sound hr e2)
theorem purGs_sound : ∀ {l : List (Bool × List Cell)} {vs : List Value} {u : Unit}, RGs w M env l vs → (purA.purGs real l).val = some u → RGs w M' env l vs
  | [], _, _, h, _ => by cases h; exact .nil
  | c :: cs, _, _, h, e => by
    unfold purA.purGs at e
    rw [val_do] at e
    obtain ⟨_, e1, e2⟩ := some_bind e
    cases h with
    | @cons g cs v r vs h hr =>
      refine .cons ?_ (purGs_sound hr e2)
      cases g with
      | true => obtain ⟨vs, h1, h2⟩ := h; exact ⟨vs, h1, purCells_sound h2 e1⟩
      | false =>
        obtain ⟨c, rfl, h2⟩ := h
        unfold purCells at e1
        rw [val_do] at e1
        obtain ⟨_, e3, _⟩ := some_bind e1
        exact ⟨c, rfl, purCell_sound h2 e3⟩
theorem purA_sound {x : AV} {v : Value} {u : Unit} (h : RAV w M env x v) (e : (purA real x).val = some u) : RAV w M' env x v := by
  cases h with
  | one h => exact .one (purCell_sound h e)
  | ag h => exact .ag (purCells_sound h e)
  | tp h => exact .tp (purGs_sound h e)
theorem purS_sound : ∀ {σ : Store} {u : Unit}, (purS real σ).val = some u → ∀ c ch, lk c σ = some ch → ∀ {b N : Nat} {Oc : List Nat}, ChunkRel w M env b N ch Oc → ChunkRel w M' env b N ch Oc
  | [], _, _, c, ch, h, _, _, _, _ => by simp [lk] at h
  | (k, x) :: σ, _, e, c, ch, h, b, N, Oc, hr => by
    unfold purS at e
    rw [val_do] at e
    obtain ⟨_, e1, e2⟩ := some_bind e
    unfold lk at h
    cases hb : Nat.beq c k with
    | true =>
      rw [hb] at h
      obtain rfl := Option.some.inj h
      clear h hb
      cases hr with
      | box hb hN hR => exact .box hb hN (purCells_sound hR e1)
      | row hb hN hR =>
        unfold purK at e1
        simp only [R.val] at e1
        split at e1
        · rename_i hp
          exact .row hb hN (hR.pure hp)
        · cases e1
      | foc => simp [purK, val_stuck] at e1
    | false =>
      rw [hb] at h
      exact purS_sound e2 c ch h hr
theorem callVw_ok {g : FuncId} {F : List AV → R (AV × Store × Nat)} (hF : ∀ args r σ n, (F args).val = some (r, σ, n) → Ok0 P g args r σ n) {args : List AV} {r : AV} {S' : St} (e : (callVw real F args S).val = some (r, S')) : CallOk P g args S r S' := by
  intro E β O a w vs h hv
  unfold callVw at e
  rw [val_do] at e
  obtain ⟨us, h1, e⟩ := some_bind e
  rw [val_do] at e
  obtain ⟨⟨r0, σ, n⟩, h2, e⟩ := some_bind e
  rw [val_do] at e
  obtain ⟨_, p1, e⟩ := some_bind e
  rw [val_do] at e
  obtain ⟨_, p2, e⟩ := some_bind e
  simp only [val_ok, Option.some.injEq, Prod.mk.injEq] at e
  obtain ⟨rfl, rfl⟩ := e
  refine ((hF _ _ _ _ h2) w E.X vs (fun b hb => Nat.lt_of_lt_of_le (h.mem.xlt b hb) h.mem.size) (viewAs_sound h hv h1)).mono ?_
  intro ending w' he
  cases ending with
  | panicked => exact he.elim
  | outgrown => exact he.elim
  | returned u =>
    obtain ⟨β1, O1, m1, m2⟩ := he
    have fresh : ∀ o ch, lk o σ = some ch → ∀ b ∈ (β1 o).1 :: O1 o, w.heap.size ≤ b := fun o ch ho b hb => ((m1.own o ch ho b hb).2).elim (fun hf => hf.elim) id
    have m3 : Mem (Ent0 w (Mof E β O S.σ)) β1 O1 σ n w' := by
      refine ⟨m1.keys, fun c ch hc => purS_sound p2 c ch hc (m1.chunk c ch hc), m1.nodup, m1.disj, ?_, m1.os, m1.tape, m1.output, m1.size, m1.frame, fun b hb => Mof_lt h.mem hb, m1.nxt, m1.fix⟩
      intro o ch ho b hb
      have hf := fresh o ch ho b hb
      exact ⟨fun hX => by have := Mof_lt h.mem hX; omega, .inr hf⟩
    obtain ⟨β', O', k1, k2⟩ := h.adopt m3
    exact ⟨β', O', k1, k2 (purA_sound m2 p1)⟩
theorem EntryOk.vw {g : FuncId} {F : List AV → R (AV × Store × Nat)} (h : Sound P g F) {I : Ops} (hI : I = real) : EntryOk P g (callVw I F) := by
  subst hI
  exact ⟨h.1, fun _ _ _ _ e => callVw_ok h.2 e⟩
end
end Go.Aix
/-
  THE CALCULUS: rows whose elements are said in another way.
-/
namespace Go.Aix
def Wk (sz : Nat) (es es' : List (List PV)) : Prop := es'.length = es.length ∧ ∀ (w : World) (M : Nat → Prop) (vs : List Value) (O : List Nat), RLL w M sz es vs O → RLL w M sz es' vs O
def SWk (σ σ' : Store) : Prop := ∀ c, lk c σ' = lk c σ ∨ ∃ sz es es', lk c σ = some (.row sz es) ∧ lk c σ' = some (.row sz es') ∧ Wk sz es es'
section
variable {E : Ent} {β : Nat → Nat × Nat} {O : Nat → List Nat} {σ σ' : Store} {n : Nat} {w : World}
theorem SWk.get (h : SWk σ σ') {c : Nat} {ch : Chunk} (hc : lk c σ' = some ch) : ∃ ch', lk c σ = some ch' := by
  rcases h c with e | ⟨sz, es, es', e1, e2, _⟩
  · exact ⟨ch, e ▸ hc⟩
  · exact ⟨_, e1⟩
theorem SWk.of (h : SWk σ σ') {c : Nat} {ch : Chunk} (hc : lk c σ = some ch) : ∃ ch', lk c σ' = some ch' := by
  rcases h c with e | ⟨sz, es, es', e1, e2, _⟩
  · exact ⟨ch, e.trans hc⟩
  · exact ⟨_, e2⟩
theorem SWk.mof (h : SWk σ σ') : Mof E β O σ' = Mof E β O σ := by
  funext b
  refine propext ⟨fun x => ?_, fun x => ?_⟩
  · rcases x with x | ⟨c, ch, hc, hb⟩
    · exact .inl x
    · obtain ⟨ch', hc'⟩ := h.get hc
      exact .inr ⟨c, ch', hc', hb⟩
  · rcases x with x | ⟨c, ch, hc, hb⟩
    · exact .inl x
    · obtain ⟨ch', hc'⟩ := h.of hc
      exact .inr ⟨c, ch', hc', hb⟩
theorem SWk.env (h : SWk σ σ') : envOf β σ' = envOf β σ := by
  funext c
  unfold envOf
  rcases h c with e | ⟨sz, es, es', e1, e2, h3⟩
  · rw [e]
  · rw [e1, e2]
    simp only [Option.map_some, Chunk.sz, Chunk.cnt, h3.1]
theorem Mem.wk (h : SWk σ σ') (m : Mem E β O σ n w) : Mem E β O σ' n w := by
  have hM : Mof E β O σ' = Mof E β O σ := h.mof
  have hE : envOf β σ' = envOf β σ := h.env
  show MemM (Mof E β O σ') E β O σ' n w
  rw [hM]
  refine ⟨?_, ?_, ?_, ?_, ?_, m.os, m.tape, m.output, m.size, m.frame, m.xlt, m.nxt, ?_⟩
  · intro c ch hc
    obtain ⟨_, hc'⟩ := h.get hc
    exact m.keys c _ hc'
  · intro c ch hc
    rw [hE]
    rcases h c with e | ⟨sz, es, es', e1, e2, h3⟩
    · exact m.chunk c ch (e ▸ hc)
    · have hx := m.chunk c _ e1
      rw [e2] at hc
      cases hc
      cases hx with
      | row hb hN hr => exact .row hb hN (h3.2 _ _ _ _ hr)
  · intro c ch hc
    obtain ⟨_, hc'⟩ := h.get hc
    exact m.nodup c _ hc'
  · intro c d ch dh hc hd
    obtain ⟨_, hc'⟩ := h.get hc
    obtain ⟨_, hd'⟩ := h.get hd
    exact m.disj c d _ _ hc' hd'
  · intro c ch hc
    obtain ⟨_, hc'⟩ := h.get hc
    exact m.own c _ hc'
  · intro c ch h0 hc
    obtain ⟨_, hc'⟩ := h.get hc
    exact m.fix c _ h0 hc'
theorem Back.wk {r : AV} {u : Value} (h : SWk σ σ') (b : Back E r σ n u w) : Back E r σ' n u w := by
  obtain ⟨β, O, m, hr⟩ := b
  refine ⟨β, O, m.wk h, ?_⟩
  rw [h.mof, h.env]
  exact hr
end
theorem Ok0.wk {P : Program} {g : FuncId} {args : List AV} {r : AV} {σ σ' : Store} {n : Nat} (h : SWk σ σ') (k : Ok0 P g args r σ n) : Ok0 P g args r σ' n := by
  intro w Xs vs hx hv
  refine (k w Xs vs hx hv).mono fun e w' he => ?_
  cases e with
  | returned u => exact Back.wk h he
  | _ => exact he
theorem OkR.wk {P : Program} {g : FuncId} {args : List AV} {σ0 : Store} {n0 : Nat} {r : AV} {σ σ' : Store} {n : Nat} (h : SWk σ σ') (k : OkR P g args σ0 n0 r σ n) : OkR P g args σ0 n0 r σ' n := by
  intro w Xs β0 O0 vs hx hv
  refine (k w Xs β0 O0 vs hx hv).mono fun e w' he => ?_
  cases e with
  | returned u => exact Back.wk h he
  | _ => exact he
theorem Wk.refl {sz : Nat} {es : List (List PV)} : Wk sz es es := ⟨rfl, fun _ _ _ _ h => h⟩
theorem SWk.refl {σ : Store} : SWk σ σ := fun _ => .inl rfl
theorem SWk.row {σ : Store} {c sz : Nat} {es es' : List (List PV)} (h : Wk sz es es') : SWk ((c, .row sz es) :: σ) ((c, .row sz es') :: σ) := by
  intro d
  unfold lk
  cases Nat.beq d c with
  | true => exact .inr ⟨sz, es, es', rfl, rfl, h⟩
  | false => exact .inl rfl
theorem SWk.cons {σ σ' : Store} (e : Nat × Chunk) (h : SWk σ σ') : SWk (e :: σ) (e :: σ') := by
  intro d
  obtain ⟨c, ch⟩ := e
  unfold lk
  cases Nat.beq d c with
  | true => exact .inl rfl
  | false => exact h d
theorem Wk.app {sz : Nat} {a b : List (List PV)} (h : Wk sz a b) : ∀ (es : List (List PV)), Wk sz (es ++ a) (es ++ b)
  | [] => h
  | e :: r => ⟨by simp [h.1], fun w M vs O hr => by
      cases hr with
      | cons hl h1 h2 => exact .cons hl h1 ((Wk.app h r).2 _ _ _ _ h2)⟩
theorem Wk.nl {sz n : Nat} {r : List PV} {un : Bool} : Wk sz [.nl :: r] [.sl un n [] :: r] := ⟨rfl, fun w M vs O hr => by
  cases hr with
  | cons hl h1 h2 =>
    cases h1 with
    | cons h3 h4 =>
      cases h3 with
      | nl => exact .cons (by simpa using hl) (.cons .nil h4) h2⟩
end Go.Aix
