/- Contracts. -/
import Derived.Test.YtafdnkachndacaaLwC
set_option linter.unusedSimpArgs false
set_option linter.unusedVariables false
namespace Go.Proofs.Try
open Go Go.Aix
set_option maxRecDepth 100000
set_option maxHeartbeats 4000000
set_option linter.unusedSimpArgs false
set_option linter.unusedVariables false
/-! ### Eight bytes of a number -/
theorem r_shr (k : IntKind) (a b : Int) : real.ar .shr k a b = a.fdiv (2 ^ (min b.toNat k.bits)) := rfl
def byteAt (v k : Int) : Int := IntKind.u8.wrap (v.fdiv (2 ^ (min k.toNat IntKind.i64.bits)))
def long8 (v : Int) : Nat → List Int
  | 0 => []
  | m + 1 => byteAt v (8 * m) :: long8 v m

theorem ent192 : Enters Try.prog 192 := ⟨Try.f192, Try.func192, by kernel_rfl, by kernel_rfl⟩

theorem L192 {w : World} {Xs : Nat → Prop} {β0 : Nat → Nat × Nat} {O0 : Nat → List Nat} (es : List (List PV)) (v : Int) :
    ∀ (m : Nat) (q : Int) (n : Nat) (rs : List (List PV)), m ≤ 7 → q = 8 * m - 8 → n = rs.length → rs.length + m ≤ 1048576 → W Try.prog 192 Try.f192 (EntR w Xs β0 O0 [(0, .row 1 es)] 1) (Back (EntR w Xs β0 O0 [(0, .row 1 es)] 1) (.one (.arr 1 0 (rs.length + m))) [(1, .row 1 (rs ++ tU8.encs (long8 v m)))] 2) (place (bodyOf Try.f192) [1,1,0,1,0,0] [])
      ⟨[(0, .one (.arr 1 0 n)), (1, .one (.pv (.sc (.int .i64 v)))), (5, .one (.pv (.sc (.int .i64 q))))], [(1, .row 1 rs)], 2⟩ := by
  obtain ⟨I, hI⟩ : ∃ I, I = real := ⟨_, rfl⟩
  intro m
  induction m with
  | zero =>
    intro q n rs hm hq hn hb
    refine W_go (Y := (Tab.calls [])) xok (TabOk.calls mixed trivial) Try.func192 rfl 2000 _ hI ?_; (conv => arg 4; cbv)
    repeat' (first | ((with_reducible refine on_eqs ?_ ?_); (focus (with_reducible rfl)); conv => arg 4; cbv) | (with_reducible refine on_both ?_ ?_ <;> (conv => arg 4; cbv)) | (with_reducible refine on_true (by assumption) ?_; conv => arg 4; cbv) | (with_reducible refine on_false (by assumption) ?_; conv => arg 4; cbv) | (with_reducible refine on_ask (fun g => ?_) (fun g => ?_) <;> (have h := g) <;> (try simp (disch := omega) [hI, hn, hq, r_shr, byteAt, -List.length_eq_zero_iff] at h) <;> (try (exfalso; omega)) <;> (conv => arg 4; cbv)) | ((with_reducible refine on_must ?_ ?_); (focus (first | (simp (disch := omega) [hI, hn, hq, r_shr, byteAt]; done) | (simp (disch := omega) [hI, hn, hq, r_shr, byteAt]; omega) | (simp (disch := omega) [hI, hn, hq, r_shr, byteAt]; assumption) | (simp (disch := omega) [hI, hn, hq, r_shr, byteAt]; (refine And.intro ?_ ?_) <;> (first | omega | assumption)))); conv => arg 4; cbv))
    (with_reducible refine on_ret ?_); refine EndedN_of ?_; (conv => lhs; cbv)
    simp [long8, Ty.encs_nil, hn]
  | succ m ih =>
    intro q n rs hm hq hn hb
    refine W_go (Y := (Tab.calls [])) xok (TabOk.calls mixed trivial) Try.func192 rfl 2000 _ hI ?_; (conv => arg 4; cbv)
    repeat' (first | ((with_reducible refine on_eqs ?_ ?_); (focus (with_reducible rfl)); conv => arg 4; cbv) | (with_reducible refine on_both ?_ ?_ <;> (conv => arg 4; cbv)) | (with_reducible refine on_true (by assumption) ?_; conv => arg 4; cbv) | (with_reducible refine on_false (by assumption) ?_; conv => arg 4; cbv) | (with_reducible refine on_ask (fun g => ?_) (fun g => ?_) <;> (have h := g) <;> (try simp (disch := omega) [hI, hn, hq, r_shr, byteAt, -List.length_eq_zero_iff] at h) <;> (try (exfalso; omega)) <;> (conv => arg 4; cbv)) | ((with_reducible refine on_must ?_ ?_); (focus (first | (simp (disch := omega) [hI, hn, hq, r_shr, byteAt]; done) | (simp (disch := omega) [hI, hn, hq, r_shr, byteAt]; omega) | (simp (disch := omega) [hI, hn, hq, r_shr, byteAt]; assumption) | (simp (disch := omega) [hI, hn, hq, r_shr, byteAt]; (refine And.intro ?_ ?_) <;> (first | omega | assumption)))); conv => arg 4; cbv))
    have e1 : rs ++ tU8.encs (long8 v (m + 1)) = (rs ++ [[.sc (.int .u8 (byteAt v (8 * m)))]]) ++ tU8.encs (long8 v m) := by
      rw [long8]
      show rs ++ (tU8.enc _ :: tU8.encs _) = _
      simp [tU8]
    have e2 : rs.length + (m + 1) = (rs ++ [[PV.sc (.int .u8 (byteAt v (8 * m)))]]).length + m := by simp; omega
    rw [e1, e2]
    (with_reducible refine on_loop ?_); simp only [List.cons_append, List.nil_append]; refine W_norm [0, 1, 5] ?_ (ih _ _ _ (by omega) rfl rfl (by simp; omega)); (conv => lhs; cbv)
    have hz : 8 * ((m : Int) + 1) - 8 = 8 * m := by omega
    simp (disch := omega) [hI, hn, hq, r_shr, byteAt, r_shr, byteAt, hz]
theorem ok192 (es : List (List PV)) (v0 : Int) (hb : es.length ≤ 1000000) : OkR Try.prog 192 [.one (.arr 0 0 es.length), .one (.pv (.sc (.int .i64 v0)))] [(0, .row 1 es)] 1 (.one (.arr 1 0 (es.length + 8))) [(1, .row 1 (es ++ tU8.encs (long8 (IntKind.i64.wrap (v0 + 4611686018427387904)) 8)))] 2 := by
  obtain ⟨I, hI⟩ : ∃ I, I = real := ⟨_, rfl⟩
  have hq : True := trivial
  obtain ⟨n, hn⟩ : ∃ n, n = es.length := ⟨_, rfl⟩
  suffices hs : OkR Try.prog 192 [.one (.arr 0 0 n), .one (.pv (.sc (.int .i64 v0)))] [(0, .row 1 es)] 1 (.one (.arr 1 0 (es.length + 8))) [(1, .row 1 (es ++ tU8.encs (long8 (IntKind.i64.wrap (v0 + 4611686018427387904)) 8)))] 2 by rwa [hn] at hs
  refine OkR_run (Y := (Tab.calls [])) xok (TabOk.calls mixed trivial) Try.func192 rfl rfl rfl 2000 hI fun w Xs β0 O0 => ?_; (conv => arg 4; cbv)
  repeat' (first | ((with_reducible refine on_eqs ?_ ?_); (focus (with_reducible rfl)); conv => arg 4; cbv) | (with_reducible refine on_both ?_ ?_ <;> (conv => arg 4; cbv)) | (with_reducible refine on_true (by assumption) ?_; conv => arg 4; cbv) | (with_reducible refine on_false (by assumption) ?_; conv => arg 4; cbv) | (with_reducible refine on_ask (fun g => ?_) (fun g => ?_) <;> (have h := g) <;> (try simp (disch := omega) [hI, hn, hq, r_shr, byteAt, -List.length_eq_zero_iff] at h) <;> (try (exfalso; omega)) <;> (conv => arg 4; cbv)) | ((with_reducible refine on_must ?_ ?_); (focus (first | (simp (disch := omega) [hI, hn, hq, r_shr, byteAt]; done) | (simp (disch := omega) [hI, hn, hq, r_shr, byteAt]; omega) | (simp (disch := omega) [hI, hn, hq, r_shr, byteAt]; assumption) | (simp (disch := omega) [hI, hn, hq, r_shr, byteAt]; (refine And.intro ?_ ?_) <;> (first | omega | assumption)))); conv => arg 4; cbv))
  (with_reducible refine on_loop ?_)
  simp only [List.cons_append, List.nil_append]
  refine W_go (Y := (Tab.calls [])) xok (TabOk.calls mixed trivial) Try.func192 rfl 2000 _ hI ?_; (conv => arg 4; cbv)
  repeat' (first | ((with_reducible refine on_eqs ?_ ?_); (focus (with_reducible rfl)); conv => arg 4; cbv) | (with_reducible refine on_both ?_ ?_ <;> (conv => arg 4; cbv)) | (with_reducible refine on_true (by assumption) ?_; conv => arg 4; cbv) | (with_reducible refine on_false (by assumption) ?_; conv => arg 4; cbv) | (with_reducible refine on_ask (fun g => ?_) (fun g => ?_) <;> (have h := g) <;> (try simp (disch := omega) [hI, hn, hq, r_shr, byteAt, -List.length_eq_zero_iff] at h) <;> (try (exfalso; omega)) <;> (conv => arg 4; cbv)) | ((with_reducible refine on_must ?_ ?_); (focus (first | (simp (disch := omega) [hI, hn, hq, r_shr, byteAt]; done) | (simp (disch := omega) [hI, hn, hq, r_shr, byteAt]; omega) | (simp (disch := omega) [hI, hn, hq, r_shr, byteAt]; assumption) | (simp (disch := omega) [hI, hn, hq, r_shr, byteAt]; (refine And.intro ?_ ?_) <;> (first | omega | assumption)))); conv => arg 4; cbv))
  generalize hv : IntKind.i64.wrap (v0 + 4611686018427387904) = v
  have e1 : es ++ tU8.encs (long8 v 8) = (es ++ [[.sc (.int .u8 (byteAt v 56))]]) ++ tU8.encs (long8 v 7) := by
    rw [long8]
    show es ++ (tU8.enc _ :: tU8.encs _) = _
    simp [tU8]
  have e2 : es.length + 8 = (es ++ [[PV.sc (.int .u8 (byteAt v 56))]]).length + 7 := by simp
  rw [e1, e2]
  (with_reducible refine on_loop ?_); simp only [List.cons_append, List.nil_append]; refine W_norm [0, 1, 5] ?_ (L192 es v 7 _ _ _ (by omega) rfl rfl (by simp; omega)); (conv => lhs; cbv)
  simp (disch := omega) [hI, hn, hq, r_shr, byteAt, r_shr, byteAt, hv]

def an192 : An (List Int × Int × Unit) where
  pre t := decide (t.1.length ≤ 1000000)
  l _ t := tU8.encs (long8 (IntKind.i64.wrap (t.2.1 + 4611686018427387904)) 8)
noncomputable def en192 : En := mkE (parsC (pO tU8) (parsC pI pars0)) an192
theorem long8_len (v : Int) : ∀ m, (long8 v m).length = m
  | 0 => rfl
  | m + 1 => by simp [long8, long8_len v m]
/-- A function that appends to the row that it is handed for good. -/
def appT (I : Ops) (e : En) (sz : Nat) (args : List AV) (σ0 : Store) (n0 : Nat) : R (AV × Store × Nat) := match args with
  | [.one x, y] => match x with
    | .arr 0 0 n => match σ0 with
      | [(0, .row s es)] => match Nat.beq s sz && Nat.beq n0 1 with
        | true => .must (I.neq n (I.len es)) (.must (e.pre [.one (.pv (.sl true s es)), y]) (.ok (.one (.arr 1 0 (I.add n (I.len (e.l 0 [.one (.pv (.sl true s es)), y])))), [(1, .row sz (I.app es (e.l 0 [.one (.pv (.sl true s es)), y])))], 2)))
        | false => .stuck
      | _ => .stuck
    | _ => .stuck
  | _ => .stuck
theorem SoundR.appT {P : Program} {α : Type} {T : Ty α} {g : FuncId} {a : An (List α × Int × Unit)} (he : Enters P g)
    (h1 : ∀ (k0 : Int) (l : List α), a.pre (l, k0, ()) = true → OkR P g [.one (.arr 0 0 l.length), .one (.pv (.sc (.int .i64 k0)))] [(0, .row T.sz (mapE T.own l))] 1 (.one (.arr 1 0 (l.length + (a.l 0 (l, k0, ())).length))) [(1, .row T.sz (mapE T.own l ++ a.l 0 (l, k0, ())))] 2)
    {I : Ops} (hI : I = real) {e : En} (hk : e = mkE (parsC (pO T) (parsC pI pars0)) a) : SoundR P g (appT I e T.sz) := by
  subst hI hk
  refine ⟨he, fun args σ0 n0 r0 σ n e => ?_⟩
  unfold Try.appT at e
  split at e
  · rename_i x y
    split at e
    · rename_i m
      split at e
      · rename_i s es
        split at e
        · rename_i hb
          rw [Bool.and_eq_true] at hb
          have hs := beq_eq hb.1
          have hn0 := beq_eq hb.2
          subst hs hn0
          simp only [R.val] at e
          split at e
          · rename_i hm
            split at e
            · rename_i hp
              have hm : m = es.length := of_decide_eq_true hm
              have e := Option.some.inj e
              have hd : ∃ l k0, es = mapE T.own l ∧ y = .one (.pv (.sc (.int .i64 k0))) ∧ (parsC (pO T) (parsC pI pars0)).dec [.one (.pv (.sl true T.sz es)), y] = some (l, k0, ()) := by
                simp only [mkE] at hp
                split at hp
                · rename_i t ht
                  have ht0 := ht
                  simp only [parsC] at ht
                  split at ht
                  · rename_i a0 t0 g1 g2
                    cases ht
                    split at g2
                    · rename_i a1 t1 g3 g4
                      cases g2
                      simp only [pars0] at g4
                      cases g4
                      simp only [pI] at g3
                      split at g3
                      · rename_i k0
                        cases g3
                        simp only [pO] at g1
                        split at g1
                        · rename_i hs
                          cases g1
                          exact ⟨_, _, hs.2, rfl, ht0⟩
                        · cases g1
                      · cases g3
                    · cases g2
                  · cases ht
                · cases hp
              obtain ⟨l, k0, rfl, rfl, hd⟩ := hd
              simp only [mkE, hd] at hp e
              simp only [Prod.mk.injEq] at e
              obtain ⟨rfl, rfl, rfl⟩ := e
              rw [mapE_length] at hm
              subst hm
              exact h1 k0 l hp
            · cases e
          · cases e
        · simp [val_stuck] at e
      · simp [val_stuck] at e
    · simp [val_stuck] at e
  · simp [val_stuck] at e
theorem s192 {I : Ops} (hI : I = real) {e : En} (he : e = en192) : SoundR Try.prog 192 (appT I e 1) :=
  SoundR.appT (T := tU8) ent192 (fun k0 l hp => by
    have := ok192 (mapE tU8.own l) k0 (by rw [mapE_length]; exact of_decide_eq_true hp)
    rw [mapE_length] at this
    have e : (an192.l 0 (l, k0, ())).length = 8 := by show (tU8.encs _).length = 8; rw [Ty.encs_length, long8_len]
    rw [e]
    exact this) hI he

end Go.Proofs.Try
