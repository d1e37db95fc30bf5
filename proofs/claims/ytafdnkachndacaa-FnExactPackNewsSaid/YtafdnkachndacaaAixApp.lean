/-
  THE CALCULUS, ELEVENTH TEXT: a row that grows where it lies; appends; rows of zeros.
-/
import Derived.Test.YtafdnkachndacaaAixStore
import Derived.Laws.Append
import Derived.Laws.AppendOwn
set_option linter.unusedSimpArgs false
set_option linter.unusedVariables false
namespace Go.Aix
section
variable {P : Program} {X : Ctx} {E : Ent} {β : Nat → Nat × Nat} {O : Nat → List Nat} {S : St} {σ : Store} {next : Nat} {a : Act} {w : World} {M : Nat → Prop} {env : EnvT}

/-- The store when chunk k goes and a new one comes. -/
def regrown (k : Nat) (σ : Store) (next : Nat) (ch : Chunk) : Store := ((rm k σ).map fun e => (e.1, killK k e.2)) ++ [(next, ch)]

theorem regrown_lk (h : MemM M E β O σ next w) {k : Nat} {ch' : Chunk} (c : Nat) : lk c (regrown k σ next ch') = if c = next then some ch' else if c = k then none else (lk c σ).map (killK k) := by
  unfold regrown
  rw [lk_new (h.kill k).keys]
  split
  · rfl
  · rw [kill_lk]

theorem regrown_M (h : MemM M E β O σ next w) (hM : ∀ b, Mof E β O σ b → M b) {k : Nat} {ch ch' : Chunk} (hk : lk k σ = some ch) {Ok : List Nat} (hOk : ∀ b ∈ Ok, M b) (b : Nat) : Mof E (upd β next (β k)) (upd O next Ok) (regrown k σ next ch') b → M b := by
  rintro (hx | ⟨c, x, hc, e⟩)
  · exact hM b (.inl hx)
  · rw [regrown_lk h] at hc
    by_cases hcn : c = next
    · subst hcn
      rw [upd_self, upd_self] at e
      rcases List.mem_cons.1 e with rfl | e
      · exact hM _ (.inr ⟨k, ch, hk, List.mem_cons_self⟩)
      · exact hOk b e
    · rw [if_neg hcn] at hc
      rw [upd_ne _ _ hcn, upd_ne _ _ hcn] at e
      by_cases hck : c = k
      · rw [if_pos hck] at hc; cases hc
      · rw [if_neg hck] at hc
        obtain ⟨y, hy, _⟩ := Option.map_eq_some_iff.1 hc
        exact hM b (.inr ⟨c, y, hy, e⟩)
theorem regrown_turn (h : MemM M E β O σ next w) (hM : ∀ b, Mof E β O σ b → M b) {k : Nat} {ch ch' : Chunk} (hk : lk k σ = some ch) {Ok : List Nat} (hOk : ∀ b ∈ Ok, M b) {vs : Array Value} {t : TypeId} :
    Turn w (World.setRow w (β k).1 vs t) M (Mof E (upd β next (β k)) (upd O next Ok) (regrown k σ next ch')) (fun b => b = (β k).1) where
  same := setRow_turn_same
  within := fun b e => hM b (.inr ⟨k, ch, hk, by rw [e]; exact List.mem_cons_self⟩)
  grows := fun b hb => .inl (regrown_M h hM hk hOk b hb)
theorem regrown_env (h : MemM M E β O σ next w) {k : Nat} {ch' : Chunk} : ∀ c x, envOf β ((rm k σ).map fun e => (e.1, killK k e.2)) c = some x → envOf (upd β next (β k)) (regrown k σ next ch') c = some x := by
  intro c x hc
  unfold envOf at *
  cases e : lk c ((rm k σ).map fun e => (e.1, killK k e.2)) with
  | none => rw [e] at hc; cases hc
  | some y =>
    have hne : c ≠ next := by have := (h.kill k).keys _ _ e; omega
    unfold regrown
    rw [lk_new (h.kill k).keys, if_neg hne, e, upd_ne _ _ hne]
    rw [e] at hc
    exact hc
theorem turn_self : Turn w w M M (fun _ => False) := Turn.refl

theorem MemM.regrow (h : MemM M E β O σ next w) (hM : ∀ b, Mof E β O σ b → M b) {k : Nat} {ch : Chunk} (hk : lk k σ = some ch) {sz : Nat} {es : List (List PV)} {vs : Array Value} {t : TypeId} {Ok : List Nat}
    (hsz : vs.size = (β k).2) (hOk : ∀ b ∈ Ok, M b) (hR : RLL w M sz es vs.toList Ok)
    (hn : ((β k).1 :: Ok).Nodup) (hd : ∀ c x, c ≠ k → lk c σ = some x → ∀ b ∈ Ok, b ∉ (β c).1 :: O c) (ho : ∀ b ∈ Ok, ¬ E.X b ∧ (E.Z b ∨ E.w0.heap.size ≤ b)) :
    Mem E (upd β next (β k)) (upd O next Ok) (regrown k σ next (.row sz es)) (next + 1) (World.setRow w (β k).1 vs t) := by
  have hT := regrown_turn h hM (ch' := .row sz es) (vs := vs) (t := t) hk hOk
  have hE := regrown_env h (k := k) (ch' := .row sz es)
  have hlk := regrown_lk h (k := k) (ch' := .row sz es)
  have hblt : (β k).1 < w.heap.size := (h.chunk k ch hk).lt _ List.mem_cons_self
  have hkn : k < next := h.keys k ch hk
  have old : ∀ c x, c ≠ next → lk c (regrown k σ next (.row sz es)) = some x → c ≠ k ∧ ∃ y, lk c σ = some y ∧ x = killK k y := by
    intro c x hcn hc
    rw [hlk, if_neg hcn] at hc
    by_cases e : c = k
    · rw [if_pos e] at hc; cases hc
    · rw [if_neg e] at hc
      obtain ⟨y, hy, rfl⟩ := Option.map_eq_some_iff.1 hc
      exact ⟨e, y, hy, rfl⟩
  have self : ∀ x, lk next (regrown k σ next (.row sz es)) = some x → x = .row sz es := by
    intro x hx
    rw [hlk, if_pos rfl] at hx
    exact (Option.some.inj hx).symm
  constructor
  · intro c x hc
    by_cases e : c = next
    · omega
    · obtain ⟨_, y, hy, _⟩ := old c x e hc; have := h.keys c y hy; omega
  · intro c x hc
    by_cases e : c = next
    · subst e
      obtain rfl := self x hc
      rw [upd_self, upd_self]
      exact .row (setRow_self hblt) hsz (hR.turn hT (fun y hy e => (List.nodup_cons.1 hn).1 (e ▸ hy)))
    · obtain ⟨hck, y, hy, rfl⟩ := old c x e hc
      rw [upd_ne _ _ e, upd_ne _ _ e]
      have hne : ∀ z ∈ (β c).1 :: O c, z ≠ (β k).1 := fun z hz e' => h.disj c k y ch hy hk hck z hz (by rw [e']; exact List.mem_cons_self)
      exact ((h.chunk c y hy).kill hT (kill_env k) (fun z hz => hne z (List.mem_cons_of_mem _ hz)) (setRow_heap _ (hne _ List.mem_cons_self))).turn turn_self hE (fun _ _ h => h) rfl
  · intro c x hc
    by_cases e : c = next
    · subst e; rw [upd_self, upd_self]; exact hn
    · obtain ⟨hck, y, hy, rfl⟩ := old c x e hc
      rw [upd_ne _ _ e, upd_ne _ _ e]; exact h.nodup c y hy
  · intro c d x y hc hdd hne b hb
    by_cases e : c = next
    · subst e
      rw [upd_self, upd_self] at hb
      obtain ⟨hdk, z, hz, rfl⟩ := old d y (Ne.symm hne) hdd
      rw [upd_ne _ _ (Ne.symm hne), upd_ne _ _ (Ne.symm hne)]
      rcases List.mem_cons.1 hb with rfl | hb
      · exact h.disj k d ch z hk hz (Ne.symm hdk) _ List.mem_cons_self
      · exact hd d z hdk hz b hb
    · obtain ⟨hck, z, hz, rfl⟩ := old c x e hc
      rw [upd_ne _ _ e, upd_ne _ _ e] at hb
      by_cases e2 : d = next
      · subst e2
        rw [upd_self, upd_self]
        intro hm
        rcases List.mem_cons.1 hm with rfl | hm
        · exact h.disj c k z ch hz hk hck _ hb List.mem_cons_self
        · exact hd c z hck hz b hm hb
      · obtain ⟨hdk, u, hu, rfl⟩ := old d y e2 hdd
        rw [upd_ne _ _ e2, upd_ne _ _ e2]
        exact h.disj c d z u hz hu hne b hb
  · intro c x hc b hb
    by_cases e : c = next
    · subst e
      rw [upd_self, upd_self] at hb
      rcases List.mem_cons.1 hb with rfl | hb
      · exact h.own k ch hk _ List.mem_cons_self
      · exact ho b hb
    · obtain ⟨hck, z, hz, rfl⟩ := old c x e hc
      rw [upd_ne _ _ e, upd_ne _ _ e] at hb
      exact h.own c z hz b hb
  · exact h.os
  · exact h.tape
  · exact h.output
  · exact Nat.le_trans h.size (by simp [World.setRow])
  · intro b hb hz
    rw [setRow_heap]
    · exact h.frame b hb hz
    · intro e
      rcases h.zz k ch hk with hz' | hge
      · exact hz (e ▸ hz')
      · omega
  · exact h.xlt
  · exact Nat.le_succ_of_le h.nxt
  · intro c x hlt hc
    have e : c ≠ next := by have := h.nxt; omega
    obtain ⟨hck, z, hz, rfl⟩ := old c x e hc
    rw [upd_ne _ _ e]
    exact h.fix c z hlt hz

/-- The state of a call when chunk k grows where it lies. -/
theorem RelM.regrow (h : RelM M E β O S a w) (hM : ∀ b, Mof E β O S.σ b → M b) {d : Option Tmp} (hd : ∀ t, d = some t → t < a.tmps.size) {k : Nat} {ch : Chunk} (hk : lk k S.σ = some ch) {sz n cap off : Nat} {es : List (List PV)} {vs : Array Value} {t : TypeId} {Ok : List Nat}
    (hsz : vs.size = (β k).2) (hOk : ∀ b ∈ Ok, M b) (hR : RLL w M sz es vs.toList Ok)
    (hn : ((β k).1 :: Ok).Nodup) (hdj : ∀ c x, c ≠ k → lk c S.σ = some x → ∀ b ∈ Ok, b ∉ (β c).1 :: O c) (ho : ∀ b ∈ Ok, ¬ E.X b ∧ (E.Z b ∨ E.w0.heap.size ≤ b))
    (hnn : n ≤ es.length) (hcap : n ≤ cap) (hroom : cap = 0 ∨ (off = 0 ∧ cap * sz ≤ vs.size)) :
    Rel E (upd β S.next (β k)) (upd O S.next Ok) (Aix.newRow (kill k S) d sz es n) (a.put d (.slice (some ⟨(β k).1, off, none⟩) n cap)) (World.setRow w (β k).1 vs t) := by
  have hm := h.mem.regrow hM (t := t) hk hsz hOk hR hn hdj ho
  have hT := regrown_turn h.mem hM (ch' := .row sz es) (vs := vs) (t := t) hk hOk
  have h1 : Rel E (upd β S.next (β k)) (upd O S.next Ok) ⟨(kill k S).T, regrown k S.σ S.next (.row sz es), S.next + 1⟩ a (World.setRow w (β k).1 vs t) := by
    refine ⟨hm, ?_, h.nodef⟩
    intro q av hq
    simp only [kill] at hq
    rw [lk_map (killA k)] at hq
    obtain ⟨av0, hq0, rfl⟩ := Option.map_eq_some_iff.1 hq
    obtain ⟨h1, h2⟩ := h.slots q av0 hq0
    exact ⟨h1, (h2.kill hT (kill_env k)).turn turn_self (regrown_env h.mem (ch' := .row sz es))⟩
  refine Rel.setDst h1 hd (.one ?_)
  have henv : envOf (upd β S.next (β k)) (regrown k S.σ S.next (.row sz es)) S.next = some ((β k).1, sz, es.length, (β k).2) := by
    unfold envOf
    rw [regrown_lk h.mem, if_pos rfl, upd_self]
    rfl
  exact .arr henv (by omega) hcap (hroom.imp id (fun hh => ⟨by simpa using hh.1, by rw [← hsz]; simpa using hh.2⟩))
end
end Go.Aix
namespace Go.Aix
section
variable {P : Program} {X : Ctx} {E : Ent} {β : Nat → Nat × Nat} {O : Nat → List Nat} {S : St} {σ : Store} {next : Nat} {a : Act} {w : World} {M : Nat → Prop} {env : EnvT}

/-! ### Appends -/
theorem RelM.drew (h : RelM M E β O S a w) : RelM M E β O S a w.drew := by
  have t : Turn w w.drew M M (fun _ => False) := ⟨fun _ _ _ h => h, fun _ h => h.elim, fun _ h => .inl h⟩
  refine ⟨⟨h.mem.keys, ?_, h.mem.nodup, h.mem.disj, h.mem.own, h.mem.os, h.mem.tape, h.mem.output, h.mem.size, h.mem.frame, h.mem.xlt, h.mem.nxt, h.mem.fix⟩, ?_, h.nodef⟩
  · exact fun c ch hc => (h.mem.chunk c ch hc).turn t (fun _ _ h => h) (fun _ _ h => h) rfl
  · intro k av hk
    obtain ⟨h1, h2⟩ := h.slots k av hk
    exact ⟨h1, h2.turn t (fun _ _ h => h)⟩

theorem run_append_room {t tx ty e e' : TypeId} {i : TypeInfo} (ht : P.underlying t = some (.slice e)) (hx : P.underlying tx = some (.slice e')) (hi : P.info? e = some i) {base : Option Addr} {sLen sCap : Nat} {x : Value} {n : Nat} {news : Array Value}
    (hl : ∀ w, (Builtin.lenOf x).run P w = .ok n w) (hf : (Builtin.firstCells i.size n x).run P w = .ok news w) (hr : sLen + n ≤ sCap) {w' : World}
    (hs : match base with | none => w' = w | some a => (storeCells (a.add (sLen * i.size)) news.toList).run P w = .ok () w') :
    (Builtin.append_ #[t, tx] ty #[.slice base sLen sCap, x]).run P w = .ok (.slice base (sLen + n) sCap) w' := by
  cases base with
  | none => subst hs; simp [Builtin.append_, run_und ht, run_und hx, run_size hi, hl, hr, hf]
  | some a => simp [Builtin.append_, run_und ht, run_und hx, run_size hi, hl, hr, hf, hs]

theorem run_append_new {t tx ty e e' : TypeId} {i : TypeInfo} {z : Value} (ht : P.underlying t = some (.slice e)) (hx : P.underlying tx = some (.slice e')) (hi : P.info? e = some i) (hz : i.zero = some z) {base : Option Addr} {sLen sCap : Nat} {x : Value} {n : Nat} {olds news : Array Value}
    (hl : ∀ w, (Builtin.lenOf x).run P w = .ok n w) (hf : (Builtin.firstCells i.size n x).run P w.drew = .ok news w.drew) (ho : (Builtin.firstCells i.size sLen (.slice base sLen sCap)).run P w.drew = .ok olds w.drew) (hr : sCap < sLen + n)
    (hb : (sLen + n) * i.bytes ≤ 140737488355328) (hm : sLen + n ≤ 140737488355328) :
    (Builtin.append_ #[t, tx] ty #[.slice base sLen sCap, x]).run P w = .ok (.slice (some ⟨w.heap.size, 0, none⟩) (sLen + n) (grownCap w (sLen + n) sCap e))
      (w.drew.alloc (.cells (olds ++ news ++ Builtin.zeroCells z.cells (grownCap w (sLen + n) sCap e - (sLen + n))) e (0, 0))) := by
  have hn : ¬ (sLen + n ≤ sCap) := by omega
  have h63' : ¬ (9223372036854775807 < ((sLen : Int) + (n : Int))) := by omega
  have h48' : ¬ (281474976710656 < Builtin.nextslicecap (sLen + n) sCap * i.bytes) := by have := growslice_fits hr hb; omega
  simp [Builtin.append_, run_und ht, run_und hx, sizeOf, run_info hi, hz, zeroValue, hl, hn, h63', h48', Question.forced, hf, ho, Go.newRow, grownCap]

/-- A chunk told in other words. -/
theorem MemM.swap (h : MemM M E β O σ next w) {k : Nat} {ch ch' : Chunk} (hk : lk k σ = some ch) (hs : ch'.sz = ch.sz) (hcn : ch'.cnt = ch.cnt) {Ok : List Nat}
    (hch : ChunkRel w M (envOf β σ) (β k).1 (β k).2 ch' Ok) (hn : ((β k).1 :: Ok).Nodup) (hsub : ∀ b ∈ Ok, b ∈ O k) : MemM M E β (upd O k Ok) (Aix.put k ch' σ) next w := by
  have hE := put_env (β := β) (ch' := ch') hk hs hcn
  have sub : ∀ c, ∀ b ∈ (β c).1 :: upd O k Ok c, b ∈ (β c).1 :: O c := by
    intro c b hb
    by_cases e : c = k
    · subst e
      rw [upd_self] at hb
      rcases List.mem_cons.1 hb with rfl | hb
      · exact List.mem_cons_self
      · exact List.mem_cons_of_mem _ (hsub b hb)
    · rw [upd_ne _ _ e] at hb; exact hb
  have old : ∀ c x, lk c (Aix.put k ch' σ) = some x → ∃ y, lk c σ = some y := by
    intro c x hc
    by_cases e : c = k
    · subst e; exact ⟨ch, hk⟩
    · rw [lk_put_ne _ e] at hc; exact ⟨x, hc⟩
  refine ⟨?_, ?_, ?_, ?_, ?_, h.os, h.tape, h.output, h.size, h.frame, h.xlt, h.nxt, ?_⟩
  · intro c x hc; obtain ⟨y, hy⟩ := old c x hc; exact h.keys c y hy
  · intro c x hc
    by_cases e : c = k
    · subst e
      rw [lk_put_self] at hc
      obtain rfl := Option.some.inj hc
      rw [upd_self]
      exact hch.turn Turn.refl hE (fun _ _ h => h) rfl
    · rw [lk_put_ne _ e] at hc
      rw [upd_ne _ _ e]
      exact (h.chunk c x hc).turn Turn.refl hE (fun _ _ h => h) rfl
  · intro c x hc
    by_cases e : c = k
    · subst e; rw [upd_self]; exact hn
    · rw [lk_put_ne _ e] at hc; rw [upd_ne _ _ e]; exact h.nodup c x hc
  · intro c d x y hc hd hne b hb hm
    obtain ⟨x', hx⟩ := old c x hc
    obtain ⟨y', hy⟩ := old d y hd
    exact h.disj c d x' y' hx hy hne b (sub c b hb) (sub d b hm)
  · intro c x hc b hb
    obtain ⟨y, hy⟩ := old c x hc
    exact h.own c y hy b (sub c b hb)
  · intro c x hlt hc
    obtain ⟨y, hy⟩ := old c x hc
    exact h.fix c y hlt hy
theorem swap_M {k : Nat} {ch ch' : Chunk} (hk : lk k σ = some ch) {Ok : List Nat} (hsub : ∀ b ∈ Ok, b ∈ O k) (b : Nat) (hb : Mof E β (upd O k Ok) (put k ch' σ) b) : Mof E β O σ b := by
  rcases hb with hx | ⟨c, x, hc, e⟩
  · exact .inl hx
  · by_cases hck : c = k
    · subst hck
      rw [upd_self] at e
      refine .inr ⟨c, ch, hk, ?_⟩
      rcases List.mem_cons.1 e with rfl | e
      · exact List.mem_cons_self
      · exact List.mem_cons_of_mem _ (hsub b e)
    · rw [lk_put_ne _ hck] at hc
      rw [upd_ne _ _ hck] at e
      exact .inr ⟨c, x, hc, e⟩

theorem takeEs_sound (h : Rel E β O S a w) {y : TyI} {x : AV} {u : Value} (hx : RAV w (Mof E β O S.σ) (envOf β S.σ) x u) {new : List (List PV)} {m : Nat} {S' : St} (e : (takeEs real S y x).val = some (new, m, S')) :
    ∃ O' news On, RelM (Mof E β O S.σ) E β O' S' a w ∧ (∀ b, Mof E β O' S'.σ b → Mof E β O S.σ b) ∧ (envOf β S'.σ = envOf β S.σ) ∧ new.length = m ∧ news.length = m * y.size ∧ RLL w (Mof E β O S.σ) y.size new news On ∧ On.Nodup ∧
      (∀ c ch, lk c S'.σ = some ch → ∀ b ∈ On, b ∉ (β c).1 :: O' c) ∧ (∀ b ∈ On, ¬ E.X b ∧ (E.Z b ∨ E.w0.heap.size ≤ b)) ∧
      (∀ P w, (Builtin.lenOf u).run P w = .ok m w) ∧ (∀ P w', w'.heap = w.heap → (Builtin.firstCells y.size m u).run P w' = .ok news.toArray w') ∧ S'.next = S.next ∧ (∀ b ∈ On, Mof E β O S.σ b) := by
  unfold takeEs at e
  split at e
  · rename_i c o n
    split at e
    · rename_i sz es hlk
      split at e
      · rename_i hb
        obtain rfl := beq_eq hb
        simp only [val_ok, Option.some.injEq, Prod.mk.injEq] at e
        obtain ⟨rfl, rfl, rfl⟩ := e
        cases hx with
        | one hx => cases hx with
          | arr he hm hn hc =>
            rename_i b off sz m N cap
            obtain ⟨ch, hc', hb, hs, hcn, hN⟩ := envOf_some he
            rw [hlk] at hc'
            obtain rfl := Option.some.inj hc'
            have hcr := h.mem.chunk c _ hlk
            have hnd := h.mem.nodup c _ hlk
            have hown := h.mem.own c _ hlk
            generalize hO : O c = Oc at hcr hnd hown
            simp only [Chunk.sz] at hs
            simp only [Chunk.cnt] at hcn
            subst hcn
            cases hcr with
            | row hb' hN' hR =>
              rename_i vs ty
              have hblk := blk_some hb'
              have hle := hR.le
              have hmem : MemM (Mof E β O S.σ) E β (upd O c []) (put c (.row y.size (real.deads es)) S.σ) S.next w :=
                h.mem.swap (Ok := []) (ch' := .row y.size (real.deads es)) hlk rfl (by show (deads es).length = es.length; exact deads_length es) (.row hb' hN' hR.deads) (by simp) (fun _ hx => nomatch hx)
              have hMeq : ∀ b, Mof E β (upd O c []) (put c (.row y.size (real.deads es)) S.σ) b → Mof E β O S.σ b := fun b hb => swap_M (Ok := []) hlk (fun _ hx => nomatch hx) b hb
              have hEeq : envOf β (put c (.row y.size (real.deads es)) S.σ) = envOf β S.σ := by
                funext d
                unfold envOf
                by_cases hcd : d = c
                · subst hcd
                  rw [lk_put_self, hlk]
                  show some _ = some _
                  simp only [Chunk.sz, Chunk.cnt]
                  rw [show (real.deads es).length = es.length from deads_length es]
                · rw [lk_put_ne _ hcd]
              obtain ⟨A, B, C, hABC, hext⟩ := hR.ext o n
              have hlen : ((es.drop o).take n).length = n := by rw [List.length_take, List.length_drop]; omega
              -- the cells
              have key : ∃ news On, news.length = n * y.size ∧ RLL w (Mof E β O S.σ) y.size ((es.drop o).take n) news On ∧ On.Nodup ∧ (∀ b ∈ On, b ∈ Oc) ∧
                  (∀ P w', w'.heap = w.heap → (Builtin.firstCells y.size n (.slice (some ⟨b, off, none⟩) n cap)).run P w' = .ok news.toArray w') := by
                rcases hc with hc0 | ⟨rfl, hc1⟩
                · have hn0 : n = 0 := by omega
                  subst hn0
                  refine ⟨[], [], by simp, by simpa using .nil, List.nodup_nil, (fun _ hx => nomatch hx), fun P w' _ => ?_⟩
                  simp only [Builtin.firstCells, Nat.zero_mul]
                  rfl
                · have hmul : n * y.size ≤ cap * y.size := Nat.mul_le_mul_right _ hn
                  have hsz : vs.toList.length = vs.size := by simp
                  have hroom : o * y.size + n * y.size ≤ vs.toList.length := by rw [← hs] at hc1; omega
                  refine ⟨(vs.toList.drop (o * y.size)).take (n * y.size), B, ?_, ?_, ?_, ?_, ?_⟩
                  · rw [List.length_take, List.length_drop]; omega
                  · exact hext.pre _ (by rw [hlen, List.take_take, Nat.min_self])
                  · rw [hABC] at hnd
                    have := (List.nodup_cons.1 hnd).2
                    rw [List.append_assoc, List.nodup_append] at this
                    exact (List.nodup_append.1 this.2.1).1
                  · intro x hx; rw [hABC]; simp [hx]
                  · intro P w' hw'
                    simp only [Builtin.firstCells]
                    have hblk' : blk w' b = some vs.toList := by rw [← hb]; unfold Aix.blk at *; rw [hw']; exact hblk
                    rw [← hs]
                    exact run_loadCells P hblk' _ _ hroom
              obtain ⟨news, On, k1, k2, k3, k4, k5⟩ := key
              refine ⟨upd O c [], news, On, ⟨hmem, ?_, h.nodef⟩, hMeq, hEeq, hlen, k1, k2, k3, ?_, ?_, fun _ _ => rfl, k5, rfl, fun x hx => .inr ⟨c, _, hlk, List.mem_cons_of_mem _ (by rw [hO]; exact k4 x hx)⟩⟩
              · intro q av hq
                obtain ⟨g1, g2⟩ := h.slots q av hq
                exact ⟨g1, g2.turn Turn.refl (fun c x hx => by rw [hEeq]; exact hx)⟩
              · intro d dh hd x hx
                by_cases hcd : d = c
                · subst hcd
                  rw [upd_self]
                  intro hm
                  rcases List.mem_cons.1 hm with rfl | hm
                  · exact (List.nodup_cons.1 hnd).1 (k4 _ hx)
                  · cases hm
                · rw [lk_put_ne _ hcd] at hd
                  rw [upd_ne _ _ hcd]
                  exact h.mem.disj c d _ dh hlk hd (Ne.symm hcd) x (by rw [hO]; exact List.mem_cons_of_mem _ (k4 x hx))
              · intro x hx
                exact hown x (List.mem_cons_of_mem _ (k4 x hx))
      · simp [val_stuck] at e
    · simp [val_stuck] at e
  · simp only [val_ok, Option.some.injEq, Prod.mk.injEq] at e
    obtain ⟨rfl, rfl, rfl⟩ := e
    cases hx with
    | one hx => cases hx with
      | pv hx =>
        cases hx
        exact ⟨O, [], [], h, fun _ h => h, rfl, rfl, by simp, .nil, List.nodup_nil, (fun _ _ _ _ hx => nomatch hx), (fun _ hx => nomatch hx), fun _ _ => rfl, fun _ _ _ => by simp [Builtin.firstCells], rfl, (fun _ hx => nomatch hx)⟩
  · rename_i un sz es
    split at e
    · rename_i hb
      obtain rfl := beq_eq hb
      simp only [val_ok, Option.some.injEq, Prod.mk.injEq] at e
      obtain ⟨rfl, rfl, rfl⟩ := e
      cases hx with
      | one hx => cases hx with
        | pv hx =>
          generalize hOO : ([] : List Nat) = O0 at hx
          cases hx with
          | nil =>
            refine ⟨O, [], [], h, fun _ h => h, rfl, rfl, by simp [real], ?_, List.nodup_nil, (fun _ _ _ _ hx => nomatch hx), (fun _ hx => nomatch hx), fun _ _ => rfl, fun P w' hw' => ?_, rfl, (fun _ hx => nomatch hx)⟩
            · show RLL _ _ _ (downs []) _ _
              rw [downs]; exact .nil
            · rename_i cap ad
              cases ad with
              | none => simp [Builtin.firstCells, real]
              | some ad => simp only [Builtin.firstCells, real, List.length_nil, Nat.zero_mul]; rfl
          | sh hne hM hb' hc hR =>
            rename_i b off cap cs
            have hle := hR.le
            rw [List.length_drop] at hle
            refine ⟨O, (cs.drop off).take (es.length * y.size), [], h, fun _ h => h, rfl, downs_length es, ?_, ?_, List.nodup_nil, (fun _ _ _ _ hx => nomatch hx), (fun _ hx => nomatch hx), fun _ _ => rfl, fun P w' hw' => ?_, rfl, (fun _ hx => nomatch hx)⟩
            · show _ = es.length * y.size
              rw [List.length_take, List.length_drop]; omega
            · exact (RLL.downs hR (fun _ hx => nomatch hx)).pre _ (by rw [downs_length, List.take_take, Nat.min_self])
            · simp only [Builtin.firstCells]
              have hblk' : blk w' b = some cs := by unfold Aix.blk at *; rw [hw']; exact hb'
              show (loadCells ⟨b, off, none⟩ (es.length * y.size)).run P w' = _
              by_cases h0 : es.length * y.size = 0
              · rw [h0]; simp [loadCells, loadCellsFrom]
              · exact run_loadCells P hblk' _ _ (by omega)
          | un => cases hOO
    · simp [val_stuck] at e
  · simp [val_stuck] at e
end
end Go.Aix
