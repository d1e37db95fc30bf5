/-
  THE CALCULUS: calls that are handed a row for good (an append to it, handed back).
-/
import Derived.Test.YtafdnkachndacaaAixRef
set_option linter.unusedSimpArgs false
set_option linter.unusedVariables false
namespace Go.Aix
section
variable {P : Program} {E : Ent} {β : Nat → Nat × Nat} {O : Nat → List Nat} {S : St} {a : Act} {w : World}
/-- A call that is handed a row for good: what leads to the row is known no longer; what the call leaves is the caller's. -/
def callMv (I : Ops) (F : List AV → Store → Nat → R (AV × Store × Nat)) (args : List AV) (S : St) : R (AV × St) := match handR S.σ args with
  | ([(c, 0)], _) => match lk c S.σ with
    | some (.row sz es) => do
      let x ← F (args.map (renA [(c, 0)])) [(0, .row sz es)] 1
      .ok (renA (shiftR S.next x.2.1) x.1, adopt (kill c S) x.2.1 x.2.2)
    | _ => .stuck
  | _ => .stuck
theorem callMv_ok {g : FuncId} {F : List AV → Store → Nat → R (AV × Store × Nat)} (hF : ∀ args σ0 n0 r σ n, (F args σ0 n0).val = some (r, σ, n) → OkR P g args σ0 n0 r σ n) {args : List AV} {r : AV} {S' : St} (e : (callMv real F args S).val = some (r, S')) : CallOk P g args S r S' := by
  intro E β O a w vs h hv
  unfold callMv at e
  split at e
  case h_2 => simp [val_stuck] at e
  rename_i c _ _
  split at e
  case h_2 => simp [val_stuck] at e
  rename_i sz es hlk
  rw [val_do] at e
  obtain ⟨⟨r1, σ1, n1⟩, hF1, e⟩ := some_bind e
  simp only [val_ok, Option.some.injEq, Prod.mk.injEq] at e
  obtain ⟨rfl, rfl⟩ := e
  have hcn := h.mem.keys c _ hlk
  have hlt : ∀ b, Mof E β O S.σ b → b < w.heap.size := fun b hb => Mof_lt h.mem hb
  let σ0 : Store := [(0, .row sz es)]
  let β0 : Nat → Nat × Nat := fun _ => β c
  let O0 : Nat → List Nat := fun _ => O c
  let Xs : Nat → Prop := fun b => Mof E β O S.σ b ∧ b ∉ (β c).1 :: O c
  have lk0 : ∀ l x, lk l σ0 = some x → l = 0 ∧ x = .row sz es := by
    intro l x hl
    unfold σ0 lk at hl
    cases hb : Nat.beq l 0 with
    | true =>
      rw [hb] at hl
      exact ⟨beq_eq hb, (Option.some.inj hl).symm⟩
    | false => rw [hb] at hl; simp [lk] at hl
  have lk00 : lk 0 σ0 = some (.row sz es) := rfl
  have HM1 : ∀ b, Mof (EntR w Xs β0 O0 σ0 1) β0 O0 σ0 b → Mof E β O S.σ b := by
    rintro b (hx | ⟨l, x, hl, e⟩)
    · exact hx.1
    · exact .inr ⟨c, _, hlk, e⟩
  have t0 : Turn w w (Mof E β O S.σ) (Mof (EntR w Xs β0 O0 σ0 1) β0 O0 σ0) (fun _ => False) := ⟨fun _ _ _ h => h, fun _ h => h.elim, fun b hb => .inl (HM1 b hb)⟩
  have he0 : ∀ o n, lk o [(c, 0)] = some n → ∀ x, envOf β S.σ o = some x → envOf β0 σ0 n = some x := by
    intro o n hon x hx
    have hm := lk_mem hon
    simp only [List.mem_singleton, Prod.mk.injEq] at hm
    obtain ⟨rfl, rfl⟩ := hm
    unfold envOf at *
    rw [hlk] at hx
    rw [lk00]
    exact hx
  have hm0 : Mem (EntR w Xs β0 O0 σ0 1) β0 O0 σ0 1 w := by
    refine ⟨?_, ?_, ?_, ?_, ?_, rfl, rfl, rfl, Nat.le_refl _, fun _ _ _ => rfl, fun b hb => hlt b hb.1, Nat.le_refl _, fun _ _ _ _ => rfl⟩
    · intro l x hl; have := (lk0 l x hl).1; omega
    · intro l x hl
      obtain ⟨_, rfl⟩ := lk0 l x hl
      exact (h.mem.chunk c _ hlk).ren (ρ := [(c, 0)]) t0 he0
    · intro l x hl; exact h.mem.nodup c _ hlk
    · intro l d x y hl hd hne
      exact absurd ((lk0 l x hl).1.trans (lk0 d y hd).1.symm) hne
    · intro l x hl b hb
      exact ⟨fun hX => hX.2 hb, .inl ⟨l, x, hl, hb⟩⟩
  refine ((hF _ _ _ _ _ _ hF1) w Xs β0 O0 vs hm0 (RAVs.ren t0 he0 hv)).mono ?_
  intro ending w' hend
  cases ending with
  | panicked => exact hend.elim
  | outgrown => exact hend.elim
  | returned u =>
  obtain ⟨β1, O1, m1, v1⟩ := hend
  generalize hρ : shiftR S.next σ1 = ρ
  have hσ : (adopt (kill c S) σ1 n1).σ = (kill c S).σ ++ renS ρ σ1 ρ := by
    unfold adopt
    show (kill c S).σ ++ renS (shiftR S.next σ1) σ1 (shiftR S.next σ1) = _
    rw [hρ]
  have hT : (adopt (kill c S) σ1 n1).T = (kill c S).T := rfl
  have hN : (adopt (kill c S) σ1 n1).next = S.next + n1 := rfl
  have F1 : ∀ o n, (o, n) ∈ ρ → n = S.next + o := fun o n hm => shiftR_mem (hρ ▸ hm)
  have F2 : ∀ o n, lk o ρ = some n → n = S.next + o ∧ (o, n) ∈ ρ := fun o n hm => by have := shiftR_lk (hρ ▸ hm : lk o (shiftR S.next σ1) = some n); rwa [hρ] at this
  have F3 : ∀ o ch, lk o σ1 = some ch → (o, S.next + o) ∈ ρ := fun o ch hm => by have := shiftR_has (k := S.next) hm; rwa [hρ] at this
  have kl : ∀ d, lk d (kill c S).σ = if d = c then none else (lk d S.σ).map (killK c) := fun d => kill_lk c d
  have cases' : ∀ d x, lk d ((kill c S).σ ++ renS ρ σ1 ρ) = some x → (d < S.next ∧ d ≠ c ∧ ∃ y, lk d S.σ = some y ∧ x = killK c y) ∨ (∃ o ch, d = S.next + o ∧ lk o σ1 = some ch ∧ x = renK ρ ch) := by
    intro d x hd
    rw [lk_app, kl] at hd
    by_cases hdc : d = c
    · rw [if_pos hdc] at hd
      obtain ⟨o, ch, q1, q2, q3⟩ := renS_lk hd
      exact .inr ⟨o, ch, F1 _ _ q1, q2, q3⟩
    · rw [if_neg hdc] at hd
      cases e : lk d S.σ with
      | some y =>
        rw [e] at hd
        exact .inl ⟨h.mem.keys d y e, hdc, y, rfl, (Option.some.inj hd).symm⟩
      | none =>
        rw [e] at hd
        obtain ⟨o, ch, q1, q2, q3⟩ := renS_lk hd
        exact .inr ⟨o, ch, F1 _ _ q1, q2, q3⟩
  have old : ∀ d y, d ≠ c → lk d S.σ = some y → lk d ((kill c S).σ ++ renS ρ σ1 ρ) = some (killK c y) := by
    intro d y hdc hd; rw [lk_app, kl, if_neg hdc, hd]; rfl
  have new : ∀ o ch, lk o σ1 = some ch → lk (S.next + o) ((kill c S).σ ++ renS ρ σ1 ρ) = some (renK ρ ch) := by
    intro o ch ho
    obtain ⟨x, hx⟩ := renS_has (ρ' := ρ) ho (F3 o ch ho)
    have hn : lk (S.next + o) S.σ = none := by
      cases e : lk (S.next + o) S.σ with
      | none => rfl
      | some y => have := h.mem.keys _ y e; omega
    rw [lk_app, kl, if_neg (by omega), hn]
    obtain ⟨o', ch', q1, q2, q3⟩ := renS_lk hx
    have := F1 _ _ q1
    have : o = o' := by omega
    subst this
    rw [ho] at q2
    obtain rfl := Option.some.inj q2
    show lk (S.next + o) (renS ρ σ1 ρ) = _
    rw [hx, q3]
  let β' : Nat → Nat × Nat := fun d => if d < S.next then β d else β1 (d - S.next)
  let O' : Nat → List Nat := fun d => if d < S.next then O d else O1 (d - S.next)
  have b1 : ∀ d, d < S.next → β' d = β d ∧ O' d = O d := fun d hd => ⟨if_pos hd, if_pos hd⟩
  have b2 : ∀ o, β' (S.next + o) = β1 o ∧ O' (S.next + o) = O1 o := by
    intro o
    have hn : ¬ S.next + o < S.next := by omega
    constructor
    · show (if S.next + o < S.next then _ else _) = _
      rw [if_neg hn, Nat.add_sub_cancel_left]
    · show (if S.next + o < S.next then _ else _) = _
      rw [if_neg hn, Nat.add_sub_cancel_left]
  have P1 : ∀ o ch, lk o σ1 = some ch → ∀ b ∈ (β1 o).1 :: O1 o, b ∈ (β c).1 :: O c ∨ w.heap.size ≤ b := by
    intro o ch ho b hb
    rcases (m1.own o ch ho b hb).2 with ⟨l, x, _, hb⟩ | hb
    · exact .inl hb
    · exact .inr hb
  have apart : ∀ d y, d ≠ c → lk d S.σ = some y → ∀ b ∈ (β d).1 :: O d, b < w.heap.size ∧ b ∉ (β c).1 :: O c := fun d y hdc hd b hb => ⟨(h.mem.chunk d y hd).lt b hb, h.mem.disj d c y _ hd hlk hdc b hb⟩
  let D : Nat → Prop := fun b => b ∈ (β c).1 :: O c
  have keepB : ∀ b, b < w.heap.size → ¬ D b → w'.heap[b]? = w.heap[b]? := fun b hb hd => m1.frame b hb (fun ⟨_, _, _, e⟩ => hd e)
  have HM2 : ∀ b, Mof E β' O' ((kill c S).σ ++ renS ρ σ1 ρ) b → Mof (EntR w Xs β0 O0 σ0 1) β1 O1 σ1 b := by
    rintro b (hX | ⟨d, x, hd, e⟩)
    · exact .inl ⟨.inl hX, fun e => (h.mem.own c _ hlk b e).1 hX⟩
    · rcases cases' d x hd with ⟨k1, k2, y, k3, _⟩ | ⟨o, ch, rfl, k2, _⟩
      · rw [(b1 d k1).1, (b1 d k1).2] at e
        exact .inl ⟨.inr ⟨d, y, k3, e⟩, fun e' => (apart d y k2 k3 b e).2 e'⟩
      · rw [(b2 o).1, (b2 o).2] at e
        exact .inr ⟨o, ch, k2, e⟩
  have tk : Turn w w (Mof E β O S.σ) (Mof E β O S.σ) (fun _ => False) := Turn.refl
  have ek : ∀ d, d ≠ c → envOf β (kill c S).σ d = envOf β S.σ d := by
    intro d hdc
    unfold envOf
    rw [kl, if_neg hdc]
    cases lk d S.σ with
    | none => rfl
    | some y => cases y <;> simp [killK, Chunk.sz, Chunk.cnt]
  have t1 : Turn w w' (Mof E β O S.σ) (Mof E β' O' ((kill c S).σ ++ renS ρ σ1 ρ)) D := by
    refine ⟨fun b o hd hb => ?_, ?_, fun b hb => ?_⟩
    · rcases Nat.lt_or_ge b w.heap.size with h' | h'
      · rw [keepB b h' hd]; exact hb
      · rw [Array.getElem?_eq_none h'] at hb; cases hb
    · rintro b e
      exact .inr ⟨c, _, hlk, e⟩
    · rcases hb with hX | ⟨d, x, hd, e⟩
      · exact .inl (.inl hX)
      · rcases cases' d x hd with ⟨k1, k2, y, k3, _⟩ | ⟨o, ch, rfl, k2, _⟩
        · rw [(b1 d k1).1, (b1 d k1).2] at e
          exact .inl (.inr ⟨d, y, k3, e⟩)
        · rw [(b2 o).1, (b2 o).2] at e
          rcases P1 o ch k2 b e with q | hz
          · exact .inl (.inr ⟨c, _, hlk, q⟩)
          · refine .inr ?_
            unfold Aix.blk
            rw [Array.getElem?_eq_none hz]
  have t2 : Turn w' w' (Mof (EntR w Xs β0 O0 σ0 1) β1 O1 σ1) (Mof E β' O' ((kill c S).σ ++ renS ρ σ1 ρ)) (fun _ => False) := ⟨fun _ _ _ h => h, fun _ h => h.elim, fun b hb => .inl (HM2 b hb)⟩
  have e1 : ∀ d x, envOf β (kill c S).σ d = some x → envOf β' ((kill c S).σ ++ renS ρ σ1 ρ) d = some x := by
    intro d x hx
    by_cases hdc : d = c
    · unfold envOf at hx
      rw [kl, if_pos hdc] at hx
      cases hx
    · rw [ek d hdc] at hx
      unfold envOf at *
      obtain ⟨y, hy, hx⟩ := Option.map_eq_some_iff.1 hx
      rw [old d y hdc hy, (b1 d (h.mem.keys d y hy)).1, Option.map_some]
      cases y <;> simpa [killK, Chunk.sz, Chunk.cnt] using hx
  have e2 : ∀ o n, lk o ρ = some n → ∀ x, envOf β1 σ1 o = some x → envOf β' ((kill c S).σ ++ renS ρ σ1 ρ) n = some x := by
    intro o n hon x hx
    obtain ⟨rfl, _⟩ := F2 o n hon
    unfold envOf at *
    obtain ⟨ch, hch, hx⟩ := Option.map_eq_some_iff.1 hx
    rw [new o ch hch, (b2 o).1, Option.map_some, (renK_sz ρ ch).1, (renK_sz ρ ch).2, hx]
  refine ⟨β', O', ⟨?_, ?_, h.nodef⟩, by rw [hσ]; exact v1.ren t2 e2⟩
  · rw [hσ, hN]
    constructor
    · intro d x hd
      rcases cases' d x hd with ⟨k1, _⟩ | ⟨o, ch, rfl, k2, _⟩
      · omega
      · have := m1.keys o ch k2; omega
    · intro d x hd
      rcases cases' d x hd with ⟨k1, k2, y, k3, rfl⟩ | ⟨o, ch, rfl, k2, rfl⟩
      · rw [(b1 d k1).1, (b1 d k1).2]
        have hD : ∀ b ∈ (β d).1 :: O d, ¬ D b := fun b hb e => (apart d y k2 k3 b hb).2 e
        exact ((h.mem.chunk d y k3).kill tk ek (fun _ _ h => h) rfl).turn t1 e1 (fun b hb => hD b (List.mem_cons_of_mem _ hb)) (keepB _ (apart d y k2 k3 _ List.mem_cons_self).1 (hD _ List.mem_cons_self))
      · rw [(b2 o).1, (b2 o).2]
        exact (m1.chunk o ch k2).ren t2 e2
    · intro d x hd
      rcases cases' d x hd with ⟨k1, k2, y, k3, rfl⟩ | ⟨o, ch, rfl, k2, rfl⟩
      · rw [(b1 d k1).1, (b1 d k1).2]; exact h.mem.nodup d y k3
      · rw [(b2 o).1, (b2 o).2]; exact m1.nodup o ch k2
    · intro d d' x y hd hd' hne b hb
      rcases cases' d x hd with ⟨k1, k2, z, k3, rfl⟩ | ⟨o, ch, rfl, k2, rfl⟩
      · rw [(b1 d k1).1, (b1 d k1).2] at hb
        rcases cases' d' y hd' with ⟨j1, j2, z', j3, rfl⟩ | ⟨o', ch', rfl, j2, rfl⟩
        · rw [(b1 d' j1).1, (b1 d' j1).2]; exact h.mem.disj d d' z z' k3 j3 hne b hb
        · rw [(b2 o').1, (b2 o').2]
          intro hm
          obtain ⟨q1, q2⟩ := apart d z k2 k3 b hb
          rcases P1 o' ch' j2 b hm with hh | hh
          · exact q2 hh
          · omega
      · rw [(b2 o).1, (b2 o).2] at hb
        rcases cases' d' y hd' with ⟨j1, j2, z', j3, rfl⟩ | ⟨o', ch', rfl, j2, rfl⟩
        · rw [(b1 d' j1).1, (b1 d' j1).2]
          intro hm
          obtain ⟨q1, q2⟩ := apart d' z' j2 j3 b hm
          rcases P1 o ch k2 b hb with hh | hh
          · exact q2 hh
          · omega
        · rw [(b2 o').1, (b2 o').2]
          exact m1.disj o o' ch ch' k2 j2 (fun e => hne (by rw [e])) b hb
    · intro d x hd b hb
      rcases cases' d x hd with ⟨k1, k2, y, k3, rfl⟩ | ⟨o, ch, rfl, k2, rfl⟩
      · rw [(b1 d k1).1, (b1 d k1).2] at hb; exact h.mem.own d y k3 b hb
      · rw [(b2 o).1, (b2 o).2] at hb
        rcases P1 o ch k2 b hb with hh | hh
        · exact h.mem.own c _ hlk b hh
        · have hs := h.mem.size
          exact ⟨fun hX => by have := h.mem.xlt b hX; omega, .inr (by omega)⟩
    · exact m1.os.trans h.mem.os
    · exact m1.tape.trans h.mem.tape
    · exact m1.output.trans h.mem.output
    · exact Nat.le_trans h.mem.size m1.size
    · intro b hb hz
      have hs := h.mem.size
      rw [keepB b (by omega) ?_]
      · exact h.mem.frame b hb hz
      · intro e
        rcases (h.mem.own c _ hlk b e).2 with hq | hq
        · exact hz hq
        · omega
    · exact h.mem.xlt
    · exact Nat.le_trans h.mem.nxt (Nat.le_add_right _ _)
    · intro d x hlt hd
      have hl : d < S.next := Nat.lt_of_lt_of_le hlt h.mem.nxt
      rcases cases' d x hd with ⟨k1, k2, y, k3, rfl⟩ | ⟨o, ch, rfl, k2, rfl⟩
      · rw [(b1 d k1).1]; exact h.mem.fix d y hlt k3
      · omega
  · intro q av hq
    rw [hT] at hq
    obtain ⟨v, hv1, rfl⟩ : ∃ v, lk q S.T = some v ∧ av = killA c v := by
      have : lk q (S.T.map fun e => (e.1, killA c e.2)) = some av := hq
      rw [lk_map] at this
      obtain ⟨v, h1, h2⟩ := Option.map_eq_some_iff.1 this
      exact ⟨v, h1, h2.symm⟩
    obtain ⟨g1, g2⟩ := h.slots q v hv1
    exact ⟨g1, by rw [hσ]; exact (g2.kill tk ek).turn t1 e1⟩
theorem EntryOk.mv {g : FuncId} {F : List AV → Store → Nat → R (AV × Store × Nat)} (h : SoundR P g F) {I : Ops} (hI : I = real) : EntryOk P g (callMv I F) := by
  subst hI
  exact ⟨h.1, fun _ _ _ _ e => callMv_ok h.2 e⟩
end
end Go.Aix
