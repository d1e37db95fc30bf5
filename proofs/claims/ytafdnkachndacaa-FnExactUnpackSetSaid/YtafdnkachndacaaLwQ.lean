/- Contracts. -/
import Derived.Test.YtafdnkachndacaaLwK
set_option linter.unusedSimpArgs false
set_option linter.unusedVariables false
namespace Go.Proofs.Try
open Go Go.Aix
set_option maxRecDepth 100000
set_option maxHeartbeats 4000000
set_option linter.unusedSimpArgs false
set_option linter.unusedVariables false
section
open Classical
/-- Elements that may be held by others, said in their plain form. -/
noncomputable def pE {α : Type} (T : Ty α) : Par (List α) where
  enc l := .one (.pv (.sl false T.sz (T.encs l)))
  dec x := match x with
    | .one (.pv (.sl false s es)) => if s = T.sz ∧ es = T.encs (T.decs es) then some (T.decs es) else none
    | _ => none
  fit := by
    intro w M env x v a h e
    split at e
    · rename_i s es
      split at e
      · rename_i hs
        cases e
        rw [← hs.1, ← hs.2]
        exact h
      · cases e
    · cases e
theorem pE_dec {α : Type} (T : Ty α) (l : List α) : (pE T).dec (.one (.pv (.sl false T.sz (T.encs l)))) = some l := by
  show (if T.sz = T.sz ∧ T.encs l = T.encs (T.decs (T.encs l)) then some (T.decs (T.encs l)) else none) = _
  rw [T.decs_encs, if_pos ⟨rfl, rfl⟩]
@[simp] theorem pE_U8 (l : List Int) : (pE tU8).dec (.one (.pv (.sl false 1 (tU8.encs l)))) = some l := pE_dec tU8 l
end
/-- A method of a reader of bytes. -/
def boxE (I : Ops) (e : En) (sh : Shp) (args : List AV) (σ0 : Store) (n0 : Nat) : R (AV × Store × Nat) := match args with
  | [.one (.ptr 0 0 0)] => match σ0 with
    | [(0, .box [.pv p, .pv q])] => match Nat.beq n0 1 with
      | true => .must (e.pre [.one (.pv p), .one (.pv q)]) (sh I (fun j => e.i j [.one (.pv p), .one (.pv q)]) (fun j => e.b j [.one (.pv p), .one (.pv q)]) (fun j => e.l j [.one (.pv p), .one (.pv q)]) (fun j => e.s j [.one (.pv p), .one (.pv q)]))
      | false => .stuck
    | _ => .stuck
  | _ => .stuck
theorem SoundR.boxE {P : Program} {g : FuncId} {a : An (List Int × Bool × Unit)} {sh : Shp} (he : Enters P g)
    (h : ∀ (d : List Int) (s : Bool), a.pre (d, s, ()) = true → ∀ r σ n, (sh real (fun j => a.i j (d, s, ())) (fun j => a.b j (d, s, ())) (fun j => a.l j (d, s, ())) (fun j => a.s j (d, s, ()))).val = some (r, σ, n) →
      OkR P g [.one (.ptr 0 0 0)] [(0, .box [.pv (.sl false 1 (tU8.encs d)), .pv (.sc (.bool s))])] 1 r σ n)
    {I : Ops} (hI : I = real) {e : En} (hk : e = mkE (parsC (pE tU8) (parsC pB pars0)) a) : SoundR P g (boxE I e sh) := by
  subst hI hk
  refine ⟨he, fun args σ0 n0 r σ n e => ?_⟩
  unfold Try.boxE at e
  split at e
  · split at e
    · rename_i p q
      split at e
      · rename_i hb
        obtain rfl := beq_eq hb
        simp only [R.val] at e
        split at e
        · rename_i hp
          have hd : ∃ d s, p = .sl false 1 (tU8.encs d) ∧ q = .sc (.bool s) ∧ (parsC (pE tU8) (parsC pB pars0)).dec [.one (.pv p), .one (.pv q)] = some (d, s, ()) := by
            simp only [mkE] at hp
            split at hp
            · rename_i t ht
              have ht0 := ht
              simp only [parsC] at ht
              split at ht
              · rename_i a0 t0 g1 g2
                cases ht
                split at g2
                · rename_i a1 t1 g3 g4
                  cases g2
                  simp only [pars0] at g4
                  cases g4
                  simp only [pB] at g3
                  split at g3
                  · rename_i s0 hs0
                    cases g3
                    cases hs0
                    simp only [pE] at g1
                    split at g1
                    · rename_i s1 es1 hs1
                      cases hs1
                      split at g1
                      · rename_i hs
                        cases g1
                        refine ⟨_, _, ?_, rfl, ht0⟩
                        rw [← hs.2, hs.1]
                        rfl
                      · cases g1
                    · cases g1
                  · cases g3
                · cases g2
              · cases ht
            · cases hp
          obtain ⟨d, s, rfl, rfl, hd⟩ := hd
          simp only [mkE, hd] at hp e
          exact h d s hp r σ n e
        · cases e
      · simp [val_stuck] at e
    · simp [val_stuck] at e
  · simp [val_stuck] at e
/-! ### Bytes that are read -/
def nxB : List Int → Bool → Int × List Int × Bool
  | [], _ => (0, [], true)
  | b :: r, s => (b, r, s)
def orb (n x : Int) : Int := real.ar .or .u64 (real.ar .shl .u64 n 8) (IntKind.u64.wrap x)
def lngL : Nat → Int → List Int → Bool → Int × List Int × Bool
  | 0, n, d, s => (n, d, s)
  | k + 1, n, d, s => lngL k (orb n (nxB d s).1) (nxB d s).2.1 (nxB d s).2.2
def lngV (n : Int) : Int := IntKind.i64.wrap (IntKind.u64.wrap (n - 4611686018427387904))
def lngB (d : List Int) (s : Bool) : Int × List Int × Bool := (lngV (lngL 8 0 d s).1, (lngL 8 0 d s).2.1, (lngL 8 0 d s).2.2)
def inB (d : List Int) : Prop := ∀ b ∈ d, 0 ≤ b ∧ b ≤ 255
theorem inB_nil : inB [] := fun _ h => by simp at h
theorem inB_tl {b : Int} {d : List Int} (h : inB (b :: d)) : inB d := fun x hx => h x (List.mem_cons_of_mem _ hx)
theorem inB_hd {b : Int} {d : List Int} (h : inB (b :: d)) : 0 ≤ b ∧ b ≤ 255 := h b List.mem_cons_self
theorem nxB_in {d : List Int} {s : Bool} (h : inB d) : inB (nxB d s).2.1 ∧ 0 ≤ (nxB d s).1 ∧ (nxB d s).1 ≤ 255 := by
  cases d with
  | nil => exact ⟨inB_nil, by simp [nxB], by simp [nxB]⟩
  | cons b d => exact ⟨inB_tl h, inB_hd h⟩
theorem lngL_in : ∀ (k : Nat) (n : Int) {d : List Int} {s : Bool}, inB d → inB (lngL k n d s).2.1
  | 0, _, _, _, h => h
  | k + 1, n, d, s, h => lngL_in k _ (nxB_in h).1
theorem nxB_len (d : List Int) (s : Bool) : (nxB d s).2.1.length ≤ d.length := by cases d <;> simp [nxB]
theorem lngL_len : ∀ (k : Nat) (n : Int) (d : List Int) (s : Bool), (lngL k n d s).2.1.length ≤ d.length
  | 0, _, _, _ => Nat.le_refl _
  | k + 1, n, d, s => Nat.le_trans (lngL_len k _ _ _) (nxB_len d s)

theorem ent194 : Enters Try.prog 194 := ⟨Try.f194, Try.func194, by kernel_rfl, by kernel_rfl⟩
theorem s194 {I : Ops} (hI : I = real)  : SoundR Try.prog 194 (inlR X I (Tab.calls []) Try.f194) :=
  SoundR.inl (Y := (Tab.calls [])) xok (TabOk.calls mixed trivial) ent194 Try.func194 rfl rfl hI
noncomputable def an195 : An (List Int × Bool × Unit) where
  pre t := decide (t.1.length ≤ 100000) && t.1.all fun b => decide (0 ≤ b ∧ b ≤ 255)
  i _ t := (lngB t.1 t.2.1).1
  b _ t := (lngB t.1 t.2.1).2.2
  l _ t := tU8.encs (lngB t.1 t.2.1).2.1
noncomputable def en195 : En := mkE (parsC (pE tU8) (parsC pB pars0)) an195
def sh195 : Shp := fun I i b l s => .ok (.one (.pv (.sc (.int .i64 (i 0)))), [(0, .box [.pv (.sl false 1 (l 0)), .pv (.sc (.bool (b 0)))])], 1)
theorem ent195 : Enters Try.prog 195 := ⟨Try.f195, Try.func195, by kernel_rfl, by kernel_rfl⟩

theorem L195 {w : World} {Xs : Nat → Prop} {β0 : Nat → Nat × Nat} {O0 : Nat → List Nat} (ds0 : List (List PV)) (s0 : Bool) :
    ∀ (k i : Nat) (n : Int) (d : List Int) (s : Bool) (ds : List (List PV)), k + i = 8 → inB d → d.length ≤ 100000 → ds = tU8.encs d → W Try.prog 195 Try.f195 (EntR w Xs β0 O0 [(0, .box [.pv (.sl false 1 ds0), .pv (.sc (.bool s0))])] 1) (Back (EntR w Xs β0 O0 [(0, .box [.pv (.sl false 1 ds0), .pv (.sc (.bool s0))])] 1) (.one (.pv (.sc (.int .i64 (lngV (lngL k n d s).1))))) [(0, .box [.pv (.sl false 1 (tU8.encs (lngL k n d s).2.1)), .pv (.sc (.bool (lngL k n d s).2.2))])] 1) (place (bodyOf Try.f195) [1,1,0,1,0,0] [])
      ⟨[(0, .one (.ptr 0 0 0)), (3, .one (.pv (.sc (.int .u64 n)))), (4, .one (.pv (.sc (.int .i64 i))))], [(0, .box [.pv (.sl false 1 ds), .pv (.sc (.bool s))])], 1⟩ := by
  obtain ⟨I, hI⟩ : ∃ I, I = real := ⟨_, rfl⟩
  intro k
  induction k with
  | zero =>
    intro i n d s ds hk hd hdl hds
    refine W_go (Y := (Tab.calls [(194, false, callRef I (inlR X I (Tab.calls []) Try.f194))])) xok (TabOk.calls mixed ⟨EntryOk.ref (s194 hI) hI, notQuiet, trivial⟩) Try.func195 rfl 2000 _ hI ?_; (conv => arg 4; cbv)
    repeat' (first | ((with_reducible refine on_eqs ?_ ?_); (focus (with_reducible rfl)); conv => arg 4; cbv) | (with_reducible refine on_both ?_ ?_ <;> (conv => arg 4; cbv)) | (with_reducible refine on_true (by assumption) ?_; conv => arg 4; cbv) | (with_reducible refine on_false (by assumption) ?_; conv => arg 4; cbv) | (with_reducible refine on_ask (fun g => ?_) (fun g => ?_) <;> (have h := g) <;> (try simp (disch := omega) [hI, hds, -List.length_eq_zero_iff] at h) <;> (try (exfalso; omega)) <;> (conv => arg 4; cbv)) | ((with_reducible refine on_must ?_ ?_); (focus (first | (simp (disch := omega) [hI, hds]; done) | (simp (disch := omega) [hI, hds]; omega) | (simp (disch := omega) [hI, hds]; assumption) | (simp (disch := omega) [hI, hds]; (refine And.intro ?_ ?_) <;> (first | omega | assumption)))); conv => arg 4; cbv))
    (with_reducible refine on_ret ?_); refine EndedN_of ?_; (conv => lhs; cbv)
    simp (disch := omega) [hI, hds, lngL, lngV]
  | succ k ih =>
    intro i n d s ds hk hd hdl hds
    cases d with
    | nil =>
      refine W_go (Y := (Tab.calls [(194, false, callRef I (inlR X I (Tab.calls []) Try.f194))])) xok (TabOk.calls mixed ⟨EntryOk.ref (s194 hI) hI, notQuiet, trivial⟩) Try.func195 rfl 2000 _ hI ?_; (conv => arg 4; cbv)
      repeat' (first | ((with_reducible refine on_eqs ?_ ?_); (focus (with_reducible rfl)); conv => arg 4; cbv) | (with_reducible refine on_both ?_ ?_ <;> (conv => arg 4; cbv)) | (with_reducible refine on_true (by assumption) ?_; conv => arg 4; cbv) | (with_reducible refine on_false (by assumption) ?_; conv => arg 4; cbv) | (with_reducible refine on_ask (fun g => ?_) (fun g => ?_) <;> (have h := g) <;> (try simp (disch := omega) [hI, hds, -List.length_eq_zero_iff] at h) <;> (try (exfalso; omega)) <;> (conv => arg 4; cbv)) | ((with_reducible refine on_must ?_ ?_); (focus (first | (simp (disch := omega) [hI, hds]; done) | (simp (disch := omega) [hI, hds]; omega) | (simp (disch := omega) [hI, hds]; assumption) | (simp (disch := omega) [hI, hds]; (refine And.intro ?_ ?_) <;> (first | omega | assumption)))); conv => arg 4; cbv))
      rw [show lngL (k + 1) n [] s = lngL k (orb n 0) [] true from rfl]
      (with_reducible refine on_loop ?_); simp only [List.cons_append, List.nil_append]; refine W_norm [0, 3, 4] ?_ (ih (i + 1) _ [] true _ (by omega) inB_nil (by simp) rfl); (conv => lhs; cbv)
      simp (disch := omega) [hI, hds, orb]
    | cons c d =>
      have hc := inB_hd hd
      have hdl2 : d.length ≤ 99999 := by simpa using hdl
      have hlc : (c :: d).length = d.length + 1 := rfl
      refine W_go (Y := (Tab.calls [(194, false, callRef I (inlR X I (Tab.calls []) Try.f194))])) xok (TabOk.calls mixed ⟨EntryOk.ref (s194 hI) hI, notQuiet, trivial⟩) Try.func195 rfl 2000 _ hI ?_; (conv => arg 4; cbv)
      repeat' (first | ((with_reducible refine on_eqs ?_ ?_); (focus (with_reducible rfl)); conv => arg 4; cbv) | (with_reducible refine on_both ?_ ?_ <;> (conv => arg 4; cbv)) | (with_reducible refine on_true (by assumption) ?_; conv => arg 4; cbv) | (with_reducible refine on_false (by assumption) ?_; conv => arg 4; cbv) | (with_reducible refine on_ask (fun g => ?_) (fun g => ?_) <;> (have h := g) <;> (try simp (disch := omega) [hI, hds, -List.length_eq_zero_iff] at h) <;> (try (exfalso; omega)) <;> (conv => arg 4; cbv)) | ((with_reducible refine on_must ?_ ?_); (focus (first | (simp (disch := omega) [hI, hds]; done) | (simp (disch := omega) [hI, hds]; omega) | (simp (disch := omega) [hI, hds]; assumption) | (simp (disch := omega) [hI, hds]; (refine And.intro ?_ ?_) <;> (first | omega | assumption)))); conv => arg 4; cbv))
      rw [show lngL (k + 1) n (c :: d) s = lngL k (orb n c) d s from rfl]
      (with_reducible refine on_loop ?_); simp only [List.cons_append, List.nil_append]; refine W_norm [0, 3, 4] ?_ (ih (i + 1) _ d s _ (by omega) (inB_tl hd) (by omega) rfl); (conv => lhs; cbv)
      simp (disch := omega) [hI, hds, orb, nth]
theorem ok195 (d : List Int) (s : Bool) (hd : inB d) (hdl : d.length ≤ 100000) : OkR Try.prog 195 [.one (.ptr 0 0 0)] [(0, .box [.pv (.sl false 1 (tU8.encs d)), .pv (.sc (.bool s))])] 1 (.one (.pv (.sc (.int .i64 (lngV (lngL 8 0 d s).1))))) [(0, .box [.pv (.sl false 1 (tU8.encs (lngL 8 0 d s).2.1)), .pv (.sc (.bool (lngL 8 0 d s).2.2))])] 1 := by
  obtain ⟨I, hI⟩ : ∃ I, I = real := ⟨_, rfl⟩
  obtain ⟨ds, hds⟩ : ∃ ds, ds = tU8.encs d := ⟨_, rfl⟩
  suffices hs : OkR Try.prog 195 [.one (.ptr 0 0 0)] [(0, .box [.pv (.sl false 1 ds), .pv (.sc (.bool s))])] 1 (.one (.pv (.sc (.int .i64 (lngV (lngL 8 0 d s).1))))) [(0, .box [.pv (.sl false 1 (tU8.encs (lngL 8 0 d s).2.1)), .pv (.sc (.bool (lngL 8 0 d s).2.2))])] 1 by rwa [hds] at hs
  refine OkR_run (Y := (Tab.calls [(194, false, callRef I (inlR X I (Tab.calls []) Try.f194))])) xok (TabOk.calls mixed ⟨EntryOk.ref (s194 hI) hI, notQuiet, trivial⟩) Try.func195 rfl rfl rfl 2000 hI fun w Xs β0 O0 => ?_; (conv => arg 4; cbv)
  repeat' (first | ((with_reducible refine on_eqs ?_ ?_); (focus (with_reducible rfl)); conv => arg 4; cbv) | (with_reducible refine on_both ?_ ?_ <;> (conv => arg 4; cbv)) | (with_reducible refine on_true (by assumption) ?_; conv => arg 4; cbv) | (with_reducible refine on_false (by assumption) ?_; conv => arg 4; cbv) | (with_reducible refine on_ask (fun g => ?_) (fun g => ?_) <;> (have h := g) <;> (try simp (disch := omega) [hI, hds, -List.length_eq_zero_iff] at h) <;> (try (exfalso; omega)) <;> (conv => arg 4; cbv)) | ((with_reducible refine on_must ?_ ?_); (focus (first | (simp (disch := omega) [hI, hds]; done) | (simp (disch := omega) [hI, hds]; omega) | (simp (disch := omega) [hI, hds]; assumption) | (simp (disch := omega) [hI, hds]; (refine And.intro ?_ ?_) <;> (first | omega | assumption)))); conv => arg 4; cbv))
  (with_reducible refine on_loop ?_); simp only [List.cons_append, List.nil_append]; refine W_norm [0, 3, 4] ?_ (L195 ds s 8 0 0 d s ds rfl hd hdl hds); (conv => lhs; cbv)
  simp (disch := omega) [hI, hds]
theorem s195 {I : Ops} (hI : I = real) {e : En} (he : e = en195) : SoundR Try.prog 195 (boxE I e sh195) :=
  SoundR.boxE ent195 (fun d s hp r σ n e => by
    have hp : (decide (d.length ≤ 100000) && d.all fun b => decide (0 ≤ b ∧ b ≤ 255)) = true := hp
    simp only [Bool.and_eq_true, List.all_eq_true, decide_eq_true_eq] at hp
    have e := Option.some.inj e
    have := ok195 d s hp.2 hp.1
    cases e
    exact this) hI he

end Go.Proofs.Try
