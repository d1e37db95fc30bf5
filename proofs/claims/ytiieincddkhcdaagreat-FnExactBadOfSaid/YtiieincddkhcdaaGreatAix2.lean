/-
  THE CALCULUS, ELEVENTH TEXT: a row that grows where it lies; appends; rows of zeros.
-/
import Derived.Test.YtiieincddkhcdaaGreatAix1
import Derived.Laws.Append
import Derived.Laws.AppendOwn
import Derived.Laws.BitsLemmas
import Derived.Laws.Tables
import Derived.Orders
set_option linter.unusedSimpArgs false
set_option linter.unusedVariables false
namespace Go.Aix
section
variable {P : Program} {X : Ctx} {E : Ent} {β : Nat → Nat × Nat} {O : Nat → List Nat} {S : St} {σ : Store} {next : Nat} {a : Act} {w : World} {M : Nat → Prop} {env : EnvT}
def regrown (k : Nat) (σ : Store) (next : Nat) (ch : Chunk) : Store := ((rm k σ).map fun e => (e.1, killK k e.2)) ++ [(next, ch)]
theorem regrown_lk (h : MemM M E β O σ next w) {k : Nat} {ch' : Chunk} (c : Nat) : lk c (regrown k σ next ch') = if c = next then some ch' else if c = k then none else (lk c σ).map (killK k) := by
  unfold regrown
  rw [lk_new (h.kill k).keys]
  split
  · rfl
  · rw [kill_lk]
theorem regrown_M (h : MemM M E β O σ next w) (hM : ∀ b, Mof E β O σ b → M b) {k : Nat} {ch ch' : Chunk} (hk : lk k σ = some ch) {Ok : List Nat} (hOk : ∀ b ∈ Ok, M b) (b : Nat) : Mof E (upd β next (β k)) (upd O next Ok) (regrown k σ next ch') b → M b := by
  rintro (hx | ⟨c, x, hc, e⟩)
  · exact hM b (.inl hx)
  · rw [regrown_lk h] at hc
    by_cases hcn : c = next
    · subst hcn
      rw [upd_self, upd_self] at e
      rcases List.mem_cons.1 e with rfl | e
      · exact hM _ (.inr ⟨k, ch, hk, List.mem_cons_self⟩)
      · exact hOk b e
    · rw [if_neg hcn] at hc
      rw [upd_ne _ _ hcn, upd_ne _ _ hcn] at e
      by_cases hck : c = k
      · rw [if_pos hck] at hc; cases hc
      · rw [if_neg hck] at hc
        obtain ⟨y, hy, _⟩ := Option.map_eq_some_iff.1 hc
        exact hM b (.inr ⟨c, y, hy, e⟩)
theorem regrown_turn (h : MemM M E β O σ next w) (hM : ∀ b, Mof E β O σ b → M b) {k : Nat} {ch ch' : Chunk} (hk : lk k σ = some ch) {Ok : List Nat} (hOk : ∀ b ∈ Ok, M b) {vs : Array Value} {t : TypeId} :
    Turn w (World.setRow w (β k).1 vs t) M (Mof E (upd β next (β k)) (upd O next Ok) (regrown k σ next ch')) (fun b => b = (β k).1) where
  same := setRow_turn_same
  within := fun b e => hM b (.inr ⟨k, ch, hk, by rw [e]; exact List.mem_cons_self⟩)
  grows := fun b hb => .inl (regrown_M h hM hk hOk b hb)
theorem regrown_env (h : MemM M E β O σ next w) {k : Nat} {ch' : Chunk} : ∀ c x, envOf β ((rm k σ).map fun e => (e.1, killK k e.2)) c = some x → envOf (upd β next (β k)) (regrown k σ next ch') c = some x := by
  intro c x hc
  unfold envOf at *
  cases e : lk c ((rm k σ).map fun e => (e.1, killK k e.2)) with
  | none => rw [e] at hc; cases hc
  | some y =>
    have hne : c ≠ next := by have := (h.kill k).keys _ _ e; omega
    unfold regrown
    rw [lk_new (h.kill k).keys, if_neg hne, e, upd_ne _ _ hne]
    rw [e] at hc
    exact hc
theorem turn_self : Turn w w M M (fun _ => False) := Turn.refl
theorem MemM.regrow (h : MemM M E β O σ next w) (hM : ∀ b, Mof E β O σ b → M b) {k : Nat} {ch : Chunk} (hk : lk k σ = some ch) {sz : Nat} {es : List (List PV)} {vs : Array Value} {t : TypeId} {Ok : List Nat}
    (hsz : vs.size = (β k).2) (hOk : ∀ b ∈ Ok, M b) (hR : RLL w M sz es vs.toList Ok)
    (hn : ((β k).1 :: Ok).Nodup) (hd : ∀ c x, c ≠ k → lk c σ = some x → ∀ b ∈ Ok, b ∉ (β c).1 :: O c) (ho : ∀ b ∈ Ok, ¬ E.X b ∧ (E.Z b ∨ E.w0.heap.size ≤ b)) :
    Mem E (upd β next (β k)) (upd O next Ok) (regrown k σ next (.row sz es)) (next + 1) (World.setRow w (β k).1 vs t) := by
  have hT := regrown_turn h hM (ch' := .row sz es) (vs := vs) (t := t) hk hOk
  have hE := regrown_env h (k := k) (ch' := .row sz es)
  have hlk := regrown_lk h (k := k) (ch' := .row sz es)
  have hblt : (β k).1 < w.heap.size := (h.chunk k ch hk).lt _ List.mem_cons_self
  have hkn : k < next := h.keys k ch hk
  have old : ∀ c x, c ≠ next → lk c (regrown k σ next (.row sz es)) = some x → c ≠ k ∧ ∃ y, lk c σ = some y ∧ x = killK k y := by
    intro c x hcn hc
    rw [hlk, if_neg hcn] at hc
    by_cases e : c = k
    · rw [if_pos e] at hc; cases hc
    · rw [if_neg e] at hc
      obtain ⟨y, hy, rfl⟩ := Option.map_eq_some_iff.1 hc
      exact ⟨e, y, hy, rfl⟩
  have self : ∀ x, lk next (regrown k σ next (.row sz es)) = some x → x = .row sz es := by
    intro x hx
    rw [hlk, if_pos rfl] at hx
    exact (Option.some.inj hx).symm
  constructor
  · intro c x hc
    by_cases e : c = next
    · omega
    · obtain ⟨_, y, hy, _⟩ := old c x e hc; have := h.keys c y hy; omega
  · intro c x hc
    by_cases e : c = next
    · subst e
      obtain rfl := self x hc
      rw [upd_self, upd_self]
      exact .row (setRow_self hblt) hsz (hR.turn hT (fun y hy e => (List.nodup_cons.1 hn).1 (e ▸ hy)))
    · obtain ⟨hck, y, hy, rfl⟩ := old c x e hc
      rw [upd_ne _ _ e, upd_ne _ _ e]
      have hne : ∀ z ∈ (β c).1 :: O c, z ≠ (β k).1 := fun z hz e' => h.disj c k y ch hy hk hck z hz (by rw [e']; exact List.mem_cons_self)
      exact ((h.chunk c y hy).kill hT (kill_env k) (fun z hz => hne z (List.mem_cons_of_mem _ hz)) (setRow_heap _ (hne _ List.mem_cons_self))).turn turn_self hE (fun _ _ h => h) rfl
  · intro c x hc
    by_cases e : c = next
    · subst e; rw [upd_self, upd_self]; exact hn
    · obtain ⟨hck, y, hy, rfl⟩ := old c x e hc
      rw [upd_ne _ _ e, upd_ne _ _ e]; exact h.nodup c y hy
  · intro c d x y hc hdd hne b hb
    by_cases e : c = next
    · subst e
      rw [upd_self, upd_self] at hb
      obtain ⟨hdk, z, hz, rfl⟩ := old d y (Ne.symm hne) hdd
      rw [upd_ne _ _ (Ne.symm hne), upd_ne _ _ (Ne.symm hne)]
      rcases List.mem_cons.1 hb with rfl | hb
      · exact h.disj k d ch z hk hz (Ne.symm hdk) _ List.mem_cons_self
      · exact hd d z hdk hz b hb
    · obtain ⟨hck, z, hz, rfl⟩ := old c x e hc
      rw [upd_ne _ _ e, upd_ne _ _ e] at hb
      by_cases e2 : d = next
      · subst e2
        rw [upd_self, upd_self]
        intro hm
        rcases List.mem_cons.1 hm with rfl | hm
        · exact h.disj c k z ch hz hk hck _ hb List.mem_cons_self
        · exact hd c z hck hz b hm hb
      · obtain ⟨hdk, u, hu, rfl⟩ := old d y e2 hdd
        rw [upd_ne _ _ e2, upd_ne _ _ e2]
        exact h.disj c d z u hz hu hne b hb
  · intro c x hc b hb
    by_cases e : c = next
    · subst e
      rw [upd_self, upd_self] at hb
      rcases List.mem_cons.1 hb with rfl | hb
      · exact h.own k ch hk _ List.mem_cons_self
      · exact ho b hb
    · obtain ⟨hck, z, hz, rfl⟩ := old c x e hc
      rw [upd_ne _ _ e, upd_ne _ _ e] at hb
      exact h.own c z hz b hb
  · exact h.os
  · exact h.tape
  · exact h.output
  · exact Nat.le_trans h.size (by simp [World.setRow])
  · intro b hb hz
    rw [setRow_heap]
    · exact h.frame b hb hz
    · intro e
      rcases h.zz k ch hk with hz' | hge
      · exact hz (e ▸ hz')
      · omega
  · exact h.xlt
  · exact Nat.le_succ_of_le h.nxt
  · intro c x hlt hc
    have e : c ≠ next := by have := h.nxt; omega
    obtain ⟨hck, z, hz, rfl⟩ := old c x e hc
    rw [upd_ne _ _ e]
    exact h.fix c z hlt hz
theorem RelM.regrow (h : RelM M E β O S a w) (hM : ∀ b, Mof E β O S.σ b → M b) {d : Option Tmp} (hd : ∀ t, d = some t → t < a.tmps.size) {k : Nat} {ch : Chunk} (hk : lk k S.σ = some ch) {sz n cap off : Nat} {es : List (List PV)} {vs : Array Value} {t : TypeId} {Ok : List Nat}
    (hsz : vs.size = (β k).2) (hOk : ∀ b ∈ Ok, M b) (hR : RLL w M sz es vs.toList Ok)
    (hn : ((β k).1 :: Ok).Nodup) (hdj : ∀ c x, c ≠ k → lk c S.σ = some x → ∀ b ∈ Ok, b ∉ (β c).1 :: O c) (ho : ∀ b ∈ Ok, ¬ E.X b ∧ (E.Z b ∨ E.w0.heap.size ≤ b))
    (hnn : n ≤ es.length) (hcap : n ≤ cap) (hroom : cap = 0 ∨ (off = 0 ∧ cap * sz ≤ vs.size)) :
    Rel E (upd β S.next (β k)) (upd O S.next Ok) (Aix.newRow (kill k S) d sz es n) (a.put d (.slice (some ⟨(β k).1, off, none⟩) n cap)) (World.setRow w (β k).1 vs t) := by
  have hm := h.mem.regrow hM (t := t) hk hsz hOk hR hn hdj ho
  have hT := regrown_turn h.mem hM (ch' := .row sz es) (vs := vs) (t := t) hk hOk
  have h1 : Rel E (upd β S.next (β k)) (upd O S.next Ok) ⟨(kill k S).T, regrown k S.σ S.next (.row sz es), S.next + 1⟩ a (World.setRow w (β k).1 vs t) := by
    refine ⟨hm, ?_, h.nodef⟩
    intro q av hq
    simp only [kill] at hq
    rw [lk_map (killA k)] at hq
    obtain ⟨av0, hq0, rfl⟩ := Option.map_eq_some_iff.1 hq
    obtain ⟨h1, h2⟩ := h.slots q av0 hq0
    exact ⟨h1, (h2.kill hT (kill_env k)).turn turn_self (regrown_env h.mem (ch' := .row sz es))⟩
  refine Rel.setDst h1 hd (.one ?_)
  have henv : envOf (upd β S.next (β k)) (regrown k S.σ S.next (.row sz es)) S.next = some ((β k).1, sz, es.length, (β k).2) := by
    unfold envOf
    rw [regrown_lk h.mem, if_pos rfl, upd_self]
    rfl
  exact .arr henv (by omega) hcap (hroom.imp id (fun hh => ⟨by simpa using hh.1, by rw [← hsz]; simpa using hh.2⟩))
end
end Go.Aix
namespace Go.Aix
section
variable {P : Program} {X : Ctx} {E : Ent} {β : Nat → Nat × Nat} {O : Nat → List Nat} {S : St} {σ : Store} {next : Nat} {a : Act} {w : World} {M : Nat → Prop} {env : EnvT}
theorem RelM.drew (h : RelM M E β O S a w) : RelM M E β O S a w.drew := by
  have t : Turn w w.drew M M (fun _ => False) := ⟨fun _ _ _ h => h, fun _ h => h.elim, fun _ h => .inl h⟩
  refine ⟨⟨h.mem.keys, ?_, h.mem.nodup, h.mem.disj, h.mem.own, h.mem.os, h.mem.tape, h.mem.output, h.mem.size, h.mem.frame, h.mem.xlt, h.mem.nxt, h.mem.fix⟩, ?_, h.nodef⟩
  · exact fun c ch hc => (h.mem.chunk c ch hc).turn t (fun _ _ h => h) (fun _ _ h => h) rfl
  · intro k av hk
    obtain ⟨h1, h2⟩ := h.slots k av hk
    exact ⟨h1, h2.turn t (fun _ _ h => h)⟩
theorem run_append_room {t tx ty e e' : TypeId} {i : TypeInfo} (ht : P.underlying t = some (.slice e)) (hx : P.underlying tx = some (.slice e')) (hi : P.info? e = some i) {base : Option Addr} {sLen sCap : Nat} {x : Value} {n : Nat} {news : Array Value}
    (hl : ∀ w, (Builtin.lenOf x).run P w = .ok n w) (hf : (Builtin.firstCells i.size n x).run P w = .ok news w) (hr : sLen + n ≤ sCap) {w' : World}
    (hs : match base with | none => w' = w | some a => (storeCells (a.add (sLen * i.size)) news.toList).run P w = .ok () w') :
    (Builtin.append_ #[t, tx] ty #[.slice base sLen sCap, x]).run P w = .ok (.slice base (sLen + n) sCap) w' := by
  cases base with
  | none => subst hs; simp [Builtin.append_, run_und ht, run_und hx, run_size hi, hl, hr, hf]
  | some a => simp [Builtin.append_, run_und ht, run_und hx, run_size hi, hl, hr, hf, hs]
theorem run_append_new {t tx ty e e' : TypeId} {i : TypeInfo} {z : Value} (ht : P.underlying t = some (.slice e)) (hx : P.underlying tx = some (.slice e')) (hi : P.info? e = some i) (hz : i.zero = some z) {base : Option Addr} {sLen sCap : Nat} {x : Value} {n : Nat} {olds news : Array Value}
    (hl : ∀ w, (Builtin.lenOf x).run P w = .ok n w) (hf : (Builtin.firstCells i.size n x).run P w.drew = .ok news w.drew) (ho : (Builtin.firstCells i.size sLen (.slice base sLen sCap)).run P w.drew = .ok olds w.drew) (hr : sCap < sLen + n)
    (hb : (sLen + n) * i.bytes ≤ 140737488355328) (hm : sLen + n ≤ 140737488355328) :
    (Builtin.append_ #[t, tx] ty #[.slice base sLen sCap, x]).run P w = .ok (.slice (some ⟨w.heap.size, 0, none⟩) (sLen + n) (grownCap w (sLen + n) sCap e))
      (w.drew.alloc (.cells (olds ++ news ++ Builtin.zeroCells z.cells (grownCap w (sLen + n) sCap e - (sLen + n))) e (0, 0))) := by
  have hn : ¬ (sLen + n ≤ sCap) := by omega
  have h63' : ¬ (9223372036854775807 < ((sLen : Int) + (n : Int))) := by omega
  have h48' : ¬ (281474976710656 < Builtin.nextslicecap (sLen + n) sCap * i.bytes) := by have := growslice_fits hr hb; omega
  simp [Builtin.append_, run_und ht, run_und hx, sizeOf, run_info hi, hz, zeroValue, hl, hn, h63', h48', Question.forced, hf, ho, Go.newRow, grownCap]
theorem MemM.swap (h : MemM M E β O σ next w) {k : Nat} {ch ch' : Chunk} (hk : lk k σ = some ch) (hs : ch'.sz = ch.sz) (hcn : ch'.cnt = ch.cnt) {Ok : List Nat}
    (hch : ChunkRel w M (envOf β σ) (β k).1 (β k).2 ch' Ok) (hn : ((β k).1 :: Ok).Nodup) (hsub : ∀ b ∈ Ok, b ∈ O k) : MemM M E β (upd O k Ok) (Aix.put k ch' σ) next w := by
  have hE := put_env (β := β) (ch' := ch') hk hs hcn
  have sub : ∀ c, ∀ b ∈ (β c).1 :: upd O k Ok c, b ∈ (β c).1 :: O c := by
    intro c b hb
    by_cases e : c = k
    · subst e
      rw [upd_self] at hb
      rcases List.mem_cons.1 hb with rfl | hb
      · exact List.mem_cons_self
      · exact List.mem_cons_of_mem _ (hsub b hb)
    · rw [upd_ne _ _ e] at hb; exact hb
  have old : ∀ c x, lk c (Aix.put k ch' σ) = some x → ∃ y, lk c σ = some y := by
    intro c x hc
    by_cases e : c = k
    · subst e; exact ⟨ch, hk⟩
    · rw [lk_put_ne _ e] at hc; exact ⟨x, hc⟩
  refine ⟨?_, ?_, ?_, ?_, ?_, h.os, h.tape, h.output, h.size, h.frame, h.xlt, h.nxt, ?_⟩
  · intro c x hc; obtain ⟨y, hy⟩ := old c x hc; exact h.keys c y hy
  · intro c x hc
    by_cases e : c = k
    · subst e
      rw [lk_put_self] at hc
      obtain rfl := Option.some.inj hc
      rw [upd_self]
      exact hch.turn Turn.refl hE (fun _ _ h => h) rfl
    · rw [lk_put_ne _ e] at hc
      rw [upd_ne _ _ e]
      exact (h.chunk c x hc).turn Turn.refl hE (fun _ _ h => h) rfl
  · intro c x hc
    by_cases e : c = k
    · subst e; rw [upd_self]; exact hn
    · rw [lk_put_ne _ e] at hc; rw [upd_ne _ _ e]; exact h.nodup c x hc
  · intro c d x y hc hd hne b hb hm
    obtain ⟨x', hx⟩ := old c x hc
    obtain ⟨y', hy⟩ := old d y hd
    exact h.disj c d x' y' hx hy hne b (sub c b hb) (sub d b hm)
  · intro c x hc b hb
    obtain ⟨y, hy⟩ := old c x hc
    exact h.own c y hy b (sub c b hb)
  · intro c x hlt hc
    obtain ⟨y, hy⟩ := old c x hc
    exact h.fix c y hlt hy
theorem swap_M {k : Nat} {ch ch' : Chunk} (hk : lk k σ = some ch) {Ok : List Nat} (hsub : ∀ b ∈ Ok, b ∈ O k) (b : Nat) (hb : Mof E β (upd O k Ok) (put k ch' σ) b) : Mof E β O σ b := by
  rcases hb with hx | ⟨c, x, hc, e⟩
  · exact .inl hx
  · by_cases hck : c = k
    · subst hck
      rw [upd_self] at e
      refine .inr ⟨c, ch, hk, ?_⟩
      rcases List.mem_cons.1 e with rfl | e
      · exact List.mem_cons_self
      · exact List.mem_cons_of_mem _ (hsub b e)
    · rw [lk_put_ne _ hck] at hc
      rw [upd_ne _ _ hck] at e
      exact .inr ⟨c, x, hc, e⟩
theorem takeEs_sound (h : Rel E β O S a w) {y : TyI} {x : AV} {u : Value} (hx : RAV w (Mof E β O S.σ) (envOf β S.σ) x u) {new : List (List PV)} {m : Nat} {S' : St} (e : (takeEs real S y x).val = some (new, m, S')) :
    ∃ O' news On, RelM (Mof E β O S.σ) E β O' S' a w ∧ (∀ b, Mof E β O' S'.σ b → Mof E β O S.σ b) ∧ (envOf β S'.σ = envOf β S.σ) ∧ new.length = m ∧ news.length = m * y.size ∧ RLL w (Mof E β O S.σ) y.size new news On ∧ On.Nodup ∧
      (∀ c ch, lk c S'.σ = some ch → ∀ b ∈ On, b ∉ (β c).1 :: O' c) ∧ (∀ b ∈ On, ¬ E.X b ∧ (E.Z b ∨ E.w0.heap.size ≤ b)) ∧
      (∀ P w, (Builtin.lenOf u).run P w = .ok m w) ∧ (∀ P w', w'.heap = w.heap → (Builtin.firstCells y.size m u).run P w' = .ok news.toArray w') ∧ S'.next = S.next ∧ (∀ b ∈ On, Mof E β O S.σ b) := by
  unfold takeEs at e
  split at e
  · rename_i c o n
    split at e
    · rename_i sz es hlk
      split at e
      · rename_i hb
        obtain rfl := beq_eq hb
        simp only [val_ok, Option.some.injEq, Prod.mk.injEq] at e
        obtain ⟨rfl, rfl, rfl⟩ := e
        cases hx with
        | one hx => cases hx with
          | arr he hm hn hc =>
            rename_i b off sz m N cap
            obtain ⟨ch, hc', hb, hs, hcn, hN⟩ := envOf_some he
            rw [hlk] at hc'
            obtain rfl := Option.some.inj hc'
            have hcr := h.mem.chunk c _ hlk
            have hnd := h.mem.nodup c _ hlk
            have hown := h.mem.own c _ hlk
            generalize hO : O c = Oc at hcr hnd hown
            simp only [Chunk.sz] at hs
            simp only [Chunk.cnt] at hcn
            subst hcn
            cases hcr with
            | row hb' hN' hR =>
              rename_i vs ty
              have hblk := blk_some hb'
              have hle := hR.le
              have hmem : MemM (Mof E β O S.σ) E β (upd O c []) (put c (.row y.size (real.deads es)) S.σ) S.next w :=
                h.mem.swap (Ok := []) (ch' := .row y.size (real.deads es)) hlk rfl (by show (deads es).length = es.length; exact deads_length es) (.row hb' hN' hR.deads) (by simp) (fun _ hx => nomatch hx)
              have hMeq : ∀ b, Mof E β (upd O c []) (put c (.row y.size (real.deads es)) S.σ) b → Mof E β O S.σ b := fun b hb => swap_M (Ok := []) hlk (fun _ hx => nomatch hx) b hb
              have hEeq : envOf β (put c (.row y.size (real.deads es)) S.σ) = envOf β S.σ := by
                funext d
                unfold envOf
                by_cases hcd : d = c
                · subst hcd
                  rw [lk_put_self, hlk]
                  show some _ = some _
                  simp only [Chunk.sz, Chunk.cnt]
                  rw [show (real.deads es).length = es.length from deads_length es]
                · rw [lk_put_ne _ hcd]
              obtain ⟨A, B, C, hABC, hext⟩ := hR.ext o n
              have hlen : ((es.drop o).take n).length = n := by rw [List.length_take, List.length_drop]; omega
              -- the cells
              have key : ∃ news On, news.length = n * y.size ∧ RLL w (Mof E β O S.σ) y.size ((es.drop o).take n) news On ∧ On.Nodup ∧ (∀ b ∈ On, b ∈ Oc) ∧
                  (∀ P w', w'.heap = w.heap → (Builtin.firstCells y.size n (.slice (some ⟨b, off, none⟩) n cap)).run P w' = .ok news.toArray w') := by
                rcases hc with hc0 | ⟨rfl, hc1⟩
                · have hn0 : n = 0 := by omega
                  subst hn0
                  refine ⟨[], [], by simp, by simpa using .nil, List.nodup_nil, (fun _ hx => nomatch hx), fun P w' _ => ?_⟩
                  simp only [Builtin.firstCells, Nat.zero_mul]
                  rfl
                · have hmul : n * y.size ≤ cap * y.size := Nat.mul_le_mul_right _ hn
                  have hsz : vs.toList.length = vs.size := by simp
                  have hroom : o * y.size + n * y.size ≤ vs.toList.length := by rw [← hs] at hc1; omega
                  refine ⟨(vs.toList.drop (o * y.size)).take (n * y.size), B, ?_, ?_, ?_, ?_, ?_⟩
                  · rw [List.length_take, List.length_drop]; omega
                  · exact hext.pre _ (by rw [hlen, List.take_take, Nat.min_self])
                  · rw [hABC] at hnd
                    have := (List.nodup_cons.1 hnd).2
                    rw [List.append_assoc, List.nodup_append] at this
                    exact (List.nodup_append.1 this.2.1).1
                  · intro x hx; rw [hABC]; simp [hx]
                  · intro P w' hw'
                    simp only [Builtin.firstCells]
                    have hblk' : blk w' b = some vs.toList := by rw [← hb]; unfold Aix.blk at *; rw [hw']; exact hblk
                    rw [← hs]
                    exact run_loadCells P hblk' _ _ hroom
              obtain ⟨news, On, k1, k2, k3, k4, k5⟩ := key
              refine ⟨upd O c [], news, On, ⟨hmem, ?_, h.nodef⟩, hMeq, hEeq, hlen, k1, k2, k3, ?_, ?_, fun _ _ => rfl, k5, rfl, fun x hx => .inr ⟨c, _, hlk, List.mem_cons_of_mem _ (by rw [hO]; exact k4 x hx)⟩⟩
              · intro q av hq
                obtain ⟨g1, g2⟩ := h.slots q av hq
                exact ⟨g1, g2.turn Turn.refl (fun c x hx => by rw [hEeq]; exact hx)⟩
              · intro d dh hd x hx
                by_cases hcd : d = c
                · subst hcd
                  rw [upd_self]
                  intro hm
                  rcases List.mem_cons.1 hm with rfl | hm
                  · exact (List.nodup_cons.1 hnd).1 (k4 _ hx)
                  · cases hm
                · rw [lk_put_ne _ hcd] at hd
                  rw [upd_ne _ _ hcd]
                  exact h.mem.disj c d _ dh hlk hd (Ne.symm hcd) x (by rw [hO]; exact List.mem_cons_of_mem _ (k4 x hx))
              · intro x hx
                exact hown x (List.mem_cons_of_mem _ (k4 x hx))
      · simp [val_stuck] at e
    · simp [val_stuck] at e
  · simp only [val_ok, Option.some.injEq, Prod.mk.injEq] at e
    obtain ⟨rfl, rfl, rfl⟩ := e
    cases hx with
    | one hx => cases hx with
      | pv hx =>
        cases hx
        exact ⟨O, [], [], h, fun _ h => h, rfl, rfl, by simp, .nil, List.nodup_nil, (fun _ _ _ _ hx => nomatch hx), (fun _ hx => nomatch hx), fun _ _ => rfl, fun _ _ _ => by simp [Builtin.firstCells], rfl, (fun _ hx => nomatch hx)⟩
  · rename_i un sz es
    split at e
    · rename_i hb
      obtain rfl := beq_eq hb
      simp only [val_ok, Option.some.injEq, Prod.mk.injEq] at e
      obtain ⟨rfl, rfl, rfl⟩ := e
      cases hx with
      | one hx => cases hx with
        | pv hx =>
          generalize hOO : ([] : List Nat) = O0 at hx
          cases hx with
          | nil =>
            refine ⟨O, [], [], h, fun _ h => h, rfl, rfl, by simp [real], ?_, List.nodup_nil, (fun _ _ _ _ hx => nomatch hx), (fun _ hx => nomatch hx), fun _ _ => rfl, fun P w' hw' => ?_, rfl, (fun _ hx => nomatch hx)⟩
            · show RLL _ _ _ (downs []) _ _
              rw [downs]; exact .nil
            · rename_i cap ad
              cases ad with
              | none => simp [Builtin.firstCells, real]
              | some ad => simp only [Builtin.firstCells, real, List.length_nil, Nat.zero_mul]; rfl
          | sh hne hM hb' hc hR =>
            rename_i b off cap cs
            have hle := hR.le
            rw [List.length_drop] at hle
            refine ⟨O, (cs.drop off).take (es.length * y.size), [], h, fun _ h => h, rfl, downs_length es, ?_, ?_, List.nodup_nil, (fun _ _ _ _ hx => nomatch hx), (fun _ hx => nomatch hx), fun _ _ => rfl, fun P w' hw' => ?_, rfl, (fun _ hx => nomatch hx)⟩
            · show _ = es.length * y.size
              rw [List.length_take, List.length_drop]; omega
            · exact (RLL.downs hR (fun _ hx => nomatch hx)).pre _ (by rw [downs_length, List.take_take, Nat.min_self])
            · simp only [Builtin.firstCells]
              have hblk' : blk w' b = some cs := by unfold Aix.blk at *; rw [hw']; exact hb'
              show (loadCells ⟨b, off, none⟩ (es.length * y.size)).run P w' = _
              by_cases h0 : es.length * y.size = 0
              · rw [h0]; simp [loadCells, loadCellsFrom]
              · exact run_loadCells P hblk' _ _ (by omega)
          | un => cases hOO
    · simp [val_stuck] at e
  · simp [val_stuck] at e
end
end Go.Aix
/-
  THE CALCULUS, TWELFTH TEXT: append, and make of a slice.
-/
namespace Go.Aix
section
variable {P : Program} {X : Ctx} {E : Ent} {β : Nat → Nat × Nat} {O : Nat → List Nat} {S : St} {σ : Store} {next : Nat} {a : Act} {w : World} {M : Nat → Prop} {env : EnvT}
theorem RL.oneV : ∀ {ps : List PV} {vs : List Value} {A : List Nat}, RL w M ps vs A → ∀ u ∈ vs.take ps.length, Aix.oneV u = true
  | _, _, _, .nil, u, hu => by simp at hu
  | _, _, _, .cons h hr, u, hu => by
    rw [List.length_cons, List.take_succ_cons] at hu
    rcases List.mem_cons.1 hu with rfl | hu
    · exact h.oneV
    · exact RL.oneV hr u hu
theorem RLL.oneV {sz : Nat} : ∀ {es : List (List PV)} {vs : List Value} {A : List Nat}, RLL w M sz es vs A → ∀ u ∈ vs.take (es.length * sz), Aix.oneV u = true
  | _, _, _, .nil, u, hu => by simp at hu
  | _, _, _, .cons (ps := ps) (es := es) (vs := vs) hl h hr, u, hu => by
    rw [List.length_cons, show (es.length + 1) * sz = sz + es.length * sz from by rw [Nat.add_mul]; omega, List.take_add] at hu
    rcases List.mem_append.1 hu with hu | hu
    · exact h.oneV u (by rw [hl]; exact hu)
    · exact RLL.oneV hr u hu
theorem RelM.kill (h : RelM M E β O S a w) (c : Nat) : RelM M E β O (kill c S) a w := by
  refine ⟨h.mem.kill c, ?_, h.nodef⟩
  intro t av ht
  simp only [Aix.kill] at ht
  rw [lk_map (killA c)] at ht
  obtain ⟨av0, h0, rfl⟩ := Option.map_eq_some_iff.1 ht
  obtain ⟨h1, h2⟩ := h.slots t av0 h0
  exact ⟨h1, h2.kill Turn.refl (kill_env c)⟩
theorem RelM.less {M' : Nat → Prop} (h : RelM M E β O S a w) (hs : ∀ b, M' b → M b) : RelM M' E β O S a w :=
  ⟨h.mem.less hs, fun t av ht => ⟨(h.slots t av ht).1, (h.slots t av ht).2.turn (D := fun _ => False) ⟨fun _ _ _ h => h, fun _ h => h.elim, fun b hb => .inl (hs b hb)⟩ (fun _ _ h => h)⟩, h.nodef⟩
theorem kill_SM (c : Nat) (b : Nat) (h : Mof E β O (Aix.kill c S).σ b) : Mof E β O S.σ b := kill_M c b h
theorem Rel.kill (h : Rel E β O S a w) (c : Nat) : Rel E β O (Aix.kill c S) a w := (RelM.kill h c).less (kill_SM c)
theorem zeroCells_size (z : Array Value) (n : Nat) : (Builtin.zeroCells z n).size = n * z.size := by simp [Builtin.zeroCells]
theorem run_call_append {o : Oper} {c : Call} (ho : o.op = .call c) (hb : c.callee = .builtin .append) {s x : Operand} {t t' : TypeId} (ha : c.args.toList = [s, x]) (ht : c.argTypes.toList = [t, t']) {v : Value} {w' : World}
    (h : (Builtin.append_ #[t, t'] o.type #[a.eval s, a.eval x]).run P w = .ok v w') : (execOp a.eval o).run P w = .ok (.value v) w' := by
  have ha' : c.args = #[s, x] := by rw [← Array.toArray_toList (xs := c.args), ha]
  have ht' : c.argTypes = #[t, t'] := by rw [← Array.toArray_toList (xs := c.argTypes), ht]
  obtain ⟨callee, args, argTypes⟩ := c
  dsimp only at hb ha' ht'
  subst hb ha' ht'
  unfold execOp
  simp only [ho, resolve, invoke, builtin, Sem.run_bind, Sem.run_pure, Result.andThen_ok, List.map_toArray, List.map_cons, List.map_nil, h]
theorem append_step (hX : XOk P X) {o : Oper} {c : Call} (ho : o.op = .call c) (hb : c.callee = .builtin .append) {s x : Operand} {t t' : TypeId} (ha : c.args.toList = [s, x]) (ht : c.argTypes.toList = [t, t']) (h : Rel E β O S a w)
    (hd : ∀ t, o.dst = some t → t < a.tmps.size) {y y' : TyI} (hy : (sliceOf X t).val = some y) (hy' : (sliceOf X t').val = some y') {sv xv : AV} (hs : (evalO S s).val = some sv) (hx : (evalO S x).val = some xv) {pos : Bool} {S' : St} (hz0 : y.zero.length = y.size)
    (e : (appendA real S o.dst y pos sv xv).val = some S') : Stepped P E o a w S' := by
  obtain ⟨el, ti, hdt, hye, hi, hsz, hbt⟩ := sliceOf_sound hX hy
  obtain ⟨el', ti', hdt', _, _, _, _⟩ := sliceOf_sound hX hy'
  obtain ⟨i, dd, z, hi', hd', hz, hzs, _, hszi, _, _⟩ := tyOf_some (hX el y hye)
  have := hi.symm.trans hi'
  obtain rfl := Option.some.inj this
  have rs := evalO_sound h hs
  have rx := evalO_sound h hx
  generalize hsv : a.eval s = su at rs
  generalize hxv : a.eval x = xu at rx
  unfold appendA at e
  rw [val_do] at e
  obtain ⟨⟨new, m, S2⟩, e1, e⟩ := some_bind e
  obtain ⟨O2, news, On, h2, hM, hE, l1, l2, hR, hnd, hdj, hown, hlen, hfirst, hnext, hOnM⟩ := takeEs_sound h rx e1
  have hone : ∀ u ∈ news, oneV u = true := by
    intro u hu
    exact hR.oneV u (by rw [l1, ← l2, List.take_length]; exact hu)
  dsimp only at e
  have roomB : ∀ n, real.nle n (140737488355328 / y.bytes) = true → n * ti.bytes ≤ 140737488355328 ∧ n ≤ 140737488355328 := by
    intro n hn
    have hn : n ≤ 140737488355328 / y.bytes := by simpa [real] using hn
    rw [← hbt] at hn
    constructor
    · exact Nat.le_trans (Nat.mul_le_mul_right _ hn) (Nat.div_mul_le_self _ _)
    · exact Nat.le_trans hn (Nat.div_le_self _ _)
  have hzl : z.cells.size = y.size := by
    have := (cellsOf_sound (w := w) (M := Mof E β O S.σ) (env := envOf β S.σ) hzs).length
    simp at this; omega
  -- a new row from nothing
  have fresh0 : su = .slice none 0 0 → 1 ≤ m → (m * ti.bytes ≤ 140737488355328 ∧ m ≤ 140737488355328) → Stepped P E o a w (newRow S2 o.dst y.size new m) := by
    intro hsu hm hB
    have hrun := run_append_new (P := P) (w := w) (ty := o.type) hdt hdt' hi hz (base := none) (sLen := 0) (sCap := 0) (x := xu) (n := m) (olds := #[]) (news := news.toArray) (fun w => hlen P w) (by rw [hsz]; exact hfirst P _ rfl) (by simp [Builtin.firstCells]) (by omega)
      (by rw [Nat.zero_add]; exact hB.1) (by omega)
    rw [Nat.zero_add] at hrun
    have hge := grownCap_ge w m 0 el
    generalize grownCap w m 0 el = cap at hrun hge
    have hrow := h2.drew.newRow hM (S := S2) (d := o.dst) (t := el) (sz := y.size) (n := m) (cap := cap) (es := new) (vs := (#[] ++ news.toArray ++ Builtin.zeroCells z.cells (cap - m))) (Oc := On) hd
      (by
        have t : Turn w w.drew (Mof E β O S.σ) (Mof E β O S.σ) (fun _ => False) := ⟨fun _ _ _ h => h, fun _ h => h.elim, fun b hb => .inl hb⟩
        refine (hR.turn t (fun _ _ h => h)).pre _ ?_
        rw [l1, Array.toList_append, Array.toList_append]
        simp [← l2])
      hOnM hnd hdj hown (by omega) (by omega) (by
        rw [Array.size_append, Array.size_append, zeroCells_size, hzl, List.size_toArray, List.size_toArray, l2, Nat.sub_mul]
        have : m * y.size ≤ cap * y.size := Nat.mul_le_mul_right _ hge
        simp; omega)
    exact ⟨_, _, _, _, run_call_append ho hb ha ht (by rw [hsv, hxv, hsu]; exact hrun), .inl ⟨_, rfl, hrow⟩⟩
  split at e
  · -- nothing yet
    cases rs with
    | one rs => cases rs with
      | pv rs =>
        cases rs
        have hfr : ∀ S', (demand (roomOf real y m) >>= fun _ => R.ok (newRow S2 o.dst y.size new m)).val = some S' → 1 ≤ m → Stepped P E o a w S' := by
          intro S' e hm
          rw [val_demand] at e
          split at e
          · rename_i hB
            simp only [val_ok, Option.some.injEq] at e
            subst e
            exact fresh0 rfl hm (roomB m hB)
          · cases e
        split at e
        · rw [val_demand] at e
          split at e
          · rename_i hm
            exact hfr _ e (by simpa [real] using hm)
          · cases e
        · rw [val_ask] at e
          split at e
          · rename_i hm
            exact hfr _ e (by simpa [real] using hm)
          · rename_i hm
            have hm0 : m = 0 := by
              have : ¬ 1 ≤ m := by simpa [real] using hm
              omega
            subst hm0
            simp only [val_ok, Option.some.injEq] at e
            subst e
            have hn0 : news = [] := List.length_eq_zero_iff.1 (by rw [l2]; simp)
            subst hn0
            have hrun := run_append_room (P := P) (w := w) (w' := w) (ty := o.type) hdt hdt' hi (base := none) (sLen := 0) (sCap := 0) (x := xu) (n := 0) (news := #[]) (fun w => hlen P w) (by rw [hsz]; exact hfirst P _ rfl) (by omega) rfl
            refine ⟨_, _, _, _, run_call_append ho hb ha ht (by rw [hsv, hxv]; exact hrun), .inl ⟨_, rfl, Rel.setDst (h2.less hM) hd (.one (.pv .nl))⟩⟩
  · -- a row of the call's own
    rename_i c n e0
    clear e0
    split at e
    · rename_i sz es hlk
      split at e
      · rename_i hbz
        obtain rfl := beq_eq hbz
        rw [val_demand] at e
        split at e
        · rename_i hn
          have hn : n = es.length := by simpa [real] using hn
          rw [val_demand] at e
          split at e
          · rename_i hB
            simp only [val_ok, Option.some.injEq] at e
            subst e
            have hB := roomB _ hB
            simp only [real] at hB
            cases rs with
            | one rs => cases rs with
              | arr he hm hnc hc =>
                rename_i b off sz m0 N cap
                rw [← hE] at he
                obtain ⟨ch, hc', hbb, hs', hcn, hN⟩ := envOf_some he
                rw [hlk] at hc'
                obtain rfl := Option.some.inj hc'
                simp only [Chunk.sz] at hs'
                simp only [Chunk.cnt] at hcn
                have hcr := h2.mem.chunk c _ hlk
                have hndc := h2.mem.nodup c _ hlk
                have hownc := h2.mem.own c _ hlk
                have hdjc := hdj c _ hlk
                generalize hO : O2 c = Oc at hcr hndc hownc hdjc
                cases hcr with
                | row hb' hN' hRc =>
                  rename_i vs ty
                  have hle := hRc.le
                  have hvs : vs.toList.length = vs.size := by simp
                  have hnewO : (Oc ++ On).Nodup := by
                    rw [List.nodup_append]
                    refine ⟨(List.nodup_cons.1 hndc).2, hnd, ?_⟩
                    intro x hx y hy e
                    exact hdjc y hy (List.mem_cons_of_mem _ (e ▸ hx))
                  have hownO : ∀ b ∈ Oc ++ On, ¬ E.X b ∧ (E.Z b ∨ E.w0.heap.size ≤ b) := by
                    intro x hx
                    rcases List.mem_append.1 hx with hx | hx
                    · exact hownc x (List.mem_cons_of_mem _ hx)
                    · exact hown x hx
                  have hdjO : ∀ d x, d ≠ c → lk d S2.σ = some x → ∀ b ∈ Oc ++ On, b ∉ (β d).1 :: O2 d := by
                    intro d x hdc hdx y hy
                    rcases List.mem_append.1 hy with hy | hy
                    · exact h2.mem.disj c d _ x hlk hdx (Ne.symm hdc) y (by rw [hO]; exact List.mem_cons_of_mem _ hy)
                    · exact hdj d x hdx y hy
                  have hR2 : RLL w (Mof E β O S.σ) y.size new news On := hR
                  have hOM : ∀ b ∈ Oc ++ On, Mof E β O S.σ b := by
                    intro x hx
                    rcases List.mem_append.1 hx with hx | hx
                    · exact hM x (.inr ⟨c, _, hlk, List.mem_cons_of_mem _ (by rw [hO]; exact hx)⟩)
                    · exact hOnM x hx
                  by_cases hroom : n + m ≤ cap
                  · -- where it lies
                    have hst : ∃ vs' : Array Value, (storeCells ((⟨b, off, none⟩ : Addr).add (n * ti.size)) news.toArray.toList).run P w = .ok () (World.setRow w (β c).1 vs' ty) ∧ vs'.size = vs.size ∧
                        RLL w (Mof E β O S.σ) y.size (es ++ new) vs'.toList (Oc ++ On) := by
                      rcases hc with hc0 | ⟨hoff, hc1⟩
                      · have hn0 : n = 0 := by omega
                        have hm0 : m = 0 := by omega
                        have he0 : es = [] := List.length_eq_zero_iff.1 (by omega)
                        have hnw : new = [] := List.length_eq_zero_iff.1 (by omega)
                        have hnn : news = [] := List.length_eq_zero_iff.1 (by rw [l2, hm0]; simp)
                        subst he0 hnw hnn
                        cases hRc
                        cases hR2
                        refine ⟨vs, ?_, rfl, by simpa using .nil⟩
                        rw [setRow_same hb']
                        rfl
                      · have hoff : off = 0 := by simpa using hoff
                        subst hoff
                        have hmul : (n + m) * y.size ≤ cap * y.size := Nat.mul_le_mul_right _ hroom
                        rw [Nat.add_mul] at hmul
                        have hfit : n * y.size + news.length ≤ vs.toList.length := by
                          rw [l2, hvs, hN', hN, ← hs'] at *
                          omega
                        have hrunS := run_storeCells P (β c).1 (n * y.size) ty news 0 w vs hb' (by simpa using hfit) hone
                        refine ⟨(over vs.toList (n * y.size) news).toArray, ?_, ?_, ?_⟩
                        · rw [addr_add, ← hbb, hsz, Nat.zero_add]
                          simpa using hrunS
                        · have := over_length (vs := vs.toList) (us := news) (off := n * y.size) hfit
                          simpa using this
                        · refine RLL.append (hRc.pre _ ?_) (hR2.pre _ ?_)
                          · rw [← hn]
                            exact over_take (by omega)
                          · rw [← hn, l1]
                            show ((over vs.toList (n * y.size) news).drop (n * y.size)).take (m * y.size) = news.take (m * y.size)
                            rw [over_drop (by omega), ← l2, List.take_left, List.take_length]
                    obtain ⟨vs', hrunS, hvs', hRR⟩ := hst
                    have hrun := run_append_room (P := P) (w := w) (w' := World.setRow w (β c).1 vs' ty) (ty := o.type) hdt hdt' hi (base := some ⟨b, off, none⟩) (sLen := n) (sCap := cap) (x := xu) (n := m) (news := news.toArray) (fun w => hlen P w) (by rw [hsz]; exact hfirst P _ rfl) hroom hrunS
                    have hgr := h2.regrow hM (d := o.dst) hd hlk (sz := y.size) (n := n + m) (cap := cap) (off := off) (es := es ++ new) (vs := vs') (t := ty) (Ok := Oc ++ On) (by rw [hvs']; exact hN') hOM hRR
                      (by
                        rw [List.nodup_cons]
                        refine ⟨?_, hnewO⟩
                        intro hx
                        rcases List.mem_append.1 hx with hx | hx
                        · exact (List.nodup_cons.1 hndc).1 hx
                        · exact hdjc _ hx List.mem_cons_self)
                      hdjO hownO (by rw [List.length_append]; omega) hroom (by
                        rcases hc with hc0 | ⟨hoff, hc1⟩
                        · exact .inl hc0
                        · exact .inr ⟨by simpa using hoff, by rw [hvs', hN', hN, hs']; simpa using hc1⟩)
                    rw [hbb] at hgr hrun
                    exact ⟨_, _, _, _, run_call_append ho hb ha ht (by rw [hsv, hxv]; exact hrun), .inl ⟨_, rfl, hgr⟩⟩
                  · -- elsewhere
                    have holds : (Builtin.firstCells ti.size n (.slice (some ⟨b, off, none⟩) n cap)).run P w.drew = .ok (vs.toList.take (n * y.size)).toArray w.drew := by
                      simp only [Builtin.firstCells]
                      rw [hsz]
                      rcases hc with hc0 | ⟨hoff, hc1⟩
                      · have hn0 : n = 0 := by omega
                        rw [hn0]
                        simp [loadCells, loadCellsFrom]
                      · have hoff : off = 0 := by simpa using hoff
                        subst hoff
                        have hblk : blk w.drew b = some vs.toList := by rw [← hbb]; exact blk_some hb'
                        have := run_loadCells P hblk 0 (n * y.size) (by rw [Nat.zero_add, hn]; exact hle)
                        simpa using this
                    have hrun := run_append_new (P := P) (w := w) (ty := o.type) hdt hdt' hi hz (base := some ⟨b, off, none⟩) (sLen := n) (sCap := cap) (x := xu) (n := m) (olds := (vs.toList.take (n * y.size)).toArray) (news := news.toArray) (fun w => hlen P w) (by rw [hsz]; exact hfirst P _ rfl) holds (by omega)
                      hB.1 hB.2
                    have hge := grownCap_ge w (n + m) cap el
                    generalize grownCap w (n + m) cap el = cap' at hrun hge
                    have htl : (vs.toList.take (n * y.size)).length = n * y.size := by rw [List.length_take]; rw [← hn] at hle; omega
                    have hrow := (h2.kill c).drew.newRow (fun b hb => hM b (kill_SM c b hb)) (S := kill c S2) (d := o.dst) (t := el) (sz := y.size) (n := n + m) (cap := cap') (es := es ++ new) (vs := ((vs.toList.take (n * y.size)).toArray ++ news.toArray ++ Builtin.zeroCells z.cells (cap' - (n + m)))) (Oc := Oc ++ On) hd
                      (by
                        have t : Turn w w.drew (Mof E β O S.σ) (Mof E β O S.σ) (fun _ => False) := ⟨fun _ _ _ h => h, fun _ h => h.elim, fun b hb => .inl hb⟩
                        refine RLL.append ((hRc.turn t (fun _ _ h => h)).pre _ ?_) ((hR2.turn t (fun _ _ h => h)).pre _ ?_)
                        · rw [← hn, Array.toList_append, Array.toList_append, List.append_assoc, List.take_append_of_le_length (by rw [List.toList_toArray, htl]; exact Nat.le_refl _)]
                          rw [List.toList_toArray, List.take_take, Nat.min_self]
                        · rw [← hn, l1, Array.toList_append, Array.toList_append, List.append_assoc, List.toList_toArray, List.drop_append_of_le_length (by rw [htl]; exact Nat.le_refl _), List.drop_of_length_le (by rw [htl]; exact Nat.le_refl _), List.nil_append, ← l2, List.toList_toArray, List.take_left, List.take_length])
                      hOM hnewO (by
                        intro d x hdx y hy
                        simp only [kill, kill_lk] at hdx
                        by_cases hdc : d = c
                        · rw [if_pos hdc] at hdx; cases hdx
                        · rw [if_neg hdc] at hdx
                          obtain ⟨u, hu, _⟩ := Option.map_eq_some_iff.1 hdx
                          exact hdjO d u hdc hu y hy)
                      hownO (by rw [List.length_append]; omega) (by omega) (by
                        rw [Array.size_append, Array.size_append, zeroCells_size, hzl, List.size_toArray, List.size_toArray, htl, l2, ← Nat.add_mul, ← Nat.add_mul, Nat.add_sub_of_le hge]
                        exact Nat.le_refl _)
                    exact ⟨_, _, _, _, run_call_append ho hb ha ht (by rw [hsv, hxv]; exact hrun), .inl ⟨_, rfl, hrow⟩⟩
          · cases e
        · cases e
      · simp [val_stuck] at e
    · simp [val_stuck] at e
  · simp [val_stuck] at e
end
end Go.Aix
/-
  THE CALCULUS, THIRTEENTH TEXT: one operation that is no call of a function.
-/
namespace Go.Aix
section
variable {P : Program} {X : Ctx} {E : Ent} {β : Nat → Nat × Nat} {O : Nat → List Nat} {S : St} {σ : Store} {next : Nat} {a : Act} {w : World} {M : Nat → Prop} {env : EnvT}
theorem typ_some {t : TypeId} {y : TyI} (h : (typ X t).val = some y) : X t = some y := by unfold typ at h; rwa [val_of] at h
theorem makeSlice_step (hX : XOk P X) {o : Oper} {t : TypeId} {l c : Operand} {y : TyI} {lv cv : AV} {n m : Int} {z : List PV} (ho : o.op = .makeSlice t l c) (h : Rel E β O S a w)
    (hd : ∀ t, o.dst = some t → t < a.tmps.size) (hy : (sliceOf X t).val = some y) (hl : (evalO S l).val = some lv) (hc : (evalO S c).val = some cv) (hn : (i64Of lv).val = some n) (hm : (i64Of cv).val = some m)
    (hnm : real.cmp .eql n m = true) (hle : real.inle n (140737488355328 / y.bytes) = true) (hz0 : Nat.beq y.zero.length y.size = true) (hz1 : (pvsOf y.zero).val = some z) :
    Stepped P E o a w (newRow S o.dst y.size (List.replicate n.toNat z) n.toNat) := by
  obtain ⟨el, ti, hdt, hye, hi, hs, hbt⟩ := sliceOf_sound hX hy
  obtain ⟨i, dd, zv, hi', hd', hz, hzs, _, hsz, _, _⟩ := tyOf_some (hX el y hye)
  have := hi.symm.trans hi'
  obtain rfl := Option.some.inj this
  have rl := evalO_sound h hl
  have rc := evalO_sound h hc
  have hi64 : ∀ {v : AV} {i : Int} {u : Value}, (i64Of v).val = some i → RAV w (Mof E β O S.σ) (envOf β S.σ) v u → u = .int .i64 i := by
    intro v i u e hr
    unfold i64Of at e
    split at e
    · simp only [val_ok, Option.some.injEq] at e
      subst e
      exact RAV.sc hr
    · simp [val_stuck] at e
  have el1 := hi64 hn rl
  have ec1 := hi64 hm rc
  have hnm : n = m := by simpa [real, cmpReal] using hnm
  subst hnm
  have hle : 0 ≤ n ∧ n ≤ ((140737488355328 / y.bytes : Nat) : Int) := of_decide_eq_true hle
  have hb0 := beq_eq hz0
  have hR := cellsOf_sound (w := w) (M := Mof E β O S.σ) (env := envOf β S.σ) hzs
  have hzl : zv.cells.size = y.size := by have := hR.length; simp at this; omega
  obtain ⟨p1, p2⟩ := pvsOf_sound hR hz1
  obtain ⟨k, rfl⟩ : ∃ k : Nat, n = k := ⟨n.toNat, by omega⟩
  have hk : k ≤ 140737488355328 / ti.bytes := by rw [hbt]; omega
  have hkb : k * ti.bytes ≤ 140737488355328 := Nat.le_trans (Nat.mul_le_mul_right _ hk) (Nat.div_mul_le_self _ _)
  have hk2 : k ≤ 140737488355328 := Nat.le_trans hk (Nat.div_le_self _ _)
  have hsize : ((Array.range (k * y.size)).map fun q => zv.cells[q % zv.cells.size]!).size = k * y.size := by simp
  have hrow := h.newRow (fun _ h => h) (d := o.dst) (t := el) (sz := y.size) (n := k) (cap := k) (es := List.replicate k z) (vs := (Array.range (k * y.size)).map fun q => zv.cells[q % zv.cells.size]!) (Oc := []) hd
    (by
      rw [zeros k y.size zv.cells hzl]
      have := RLL.zeros p1 (sz := y.size) (by rw [p2]; simpa using hzl) (by simpa using hzl) k []
      simpa using this)
    (fun _ hx => nomatch hx) List.nodup_nil (fun _ _ _ _ hx => nomatch hx) (fun _ hx => nomatch hx) (by simp) (Nat.le_refl _) (by rw [hsize]; exact Nat.le_refl _)
  refine ⟨_, _, _, _, ?_, .inl ⟨_, rfl, hrow⟩⟩
  simp only [execOp, ho]
  refine run_v ?_
  rw [el1, ec1]
  unfold Instr.makeSlice
  have hwrap : IntKind.i64.wrap (k : Int) = k := by
    rw [IntKind.wrap_i64]
    omega
  have hbytes : ¬ ((ti.bytes : Int) * k > 2 ^ 48) := by
    have e : ((ti.bytes : Int) * k) = ((k * ti.bytes : Nat) : Int) := by rw [Int.natCast_mul, Int.mul_comm]
    rw [e]
    have : (2 : Int) ^ 48 = 281474976710656 := by decide
    omega
  have hneg : ¬ ((k : Int) < 0) := by omega
  have hself : ¬ ((k : Int) > k) := by omega
  have hroomm : ∀ P w, (askRoom (k * ti.bytes)).run P w = .ok () w := by
    intro P w
    unfold askRoom
    split
    · rfl
    · rfl
  have hok : (Instr.makeSlice t (.int .i64 k) (.int .i64 k)).run P w = .ok (.slice (some ⟨w.heap.size, 0, none⟩) k k) (w.alloc (.cells ((Array.range (k * y.size)).map fun q => zv.cells[q % zv.cells.size]!) el (0, 0))) := by
    unfold Instr.makeSlice
    simp only [Sem.run_bind, run_und hdt, Result.andThen_ok, asInt, asIntOf, Sem.run_pure, run_info hi, hwrap, hneg, hbytes, hself, decide_false, Bool.false_or, Bool.or_false, Bool.false_eq_true, if_false, Int.toNat_natCast, false_or, hroomm, run_size hi, hs]
    by_cases h0 : k * y.size = 0
    · rw [if_pos h0]
      have e0 : Array.range 0 = #[] := rfl
      simp [Go.newRow, h0, e0]
    · rw [if_neg h0]
      simp [Go.newRow, zeroValue, run_info hi, hz]
  exact hok
theorem value_step (h : Rel E β O S a w) {o : Oper} (hd : ∀ t, o.dst = some t → t < a.tmps.size) {u : Value} {x : AV} (hr : (execOp a.eval o).run P w = .ok (.value u) w) (hv : RAV w (Mof E β O S.σ) (envOf β S.σ) x u) {S' : St} (e : (R.ok (Aix.setDst S o.dst x)).val = some S') :
    Stepped P E o a w S' := by
  simp only [val_ok, Option.some.injEq] at e
  subst e
  exact Stepped.pure h hd hr hv
theorem evalOO_sound (h : Rel E β O S a w) {x : Option Operand} {v : Option AV} (e : (evalOO S x).val = some v) : ROpt w (Mof E β O S.σ) (envOf β S.σ) v (x.map a.eval) := by
  cases x with
  | none =>
    simp only [evalOO, val_ok, Option.some.injEq] at e
    subst e
    trivial
  | some x =>
    simp only [evalOO, val_do] at e
    obtain ⟨v', h1, e⟩ := some_bind e
    simp only [val_ok, Option.some.injEq] at e
    subst e
    exact evalO_sound h h1
theorem capsA_sound (h : Rel E β O S a w) : ∀ {l : List Operand} {ps : List (Nat × Nat × Nat)}, (capsA S l).val = some ps → CapsR (envOf β S.σ) ps (l.map a.eval)
  | [], ps, e => by
    simp only [capsA, val_ok, Option.some.injEq] at e
    subst e
    exact .nil
  | x :: r, ps, e => by
    simp only [capsA, val_do] at e
    obtain ⟨v, h1, e⟩ := some_bind e
    have hv := evalO_sound h h1
    split at e
    · rw [val_do] at e
      obtain ⟨qs, h2, e⟩ := some_bind e
      simp only [val_ok, Option.some.injEq] at e
      subst e
      cases hv with
      | one hv =>
        generalize hu : a.eval x = u at hv
        cases hv with
        | ptr he hi =>
          rw [List.map_cons, hu]
          exact .cons he hi (capsA_sound h h2)
    · simp [val_stuck] at e
theorem RGs.get : ∀ {l : List (Bool × List Cell)} {vs : List Value}, RGs w M env l vs → ∀ (i : Nat) (x : Bool × List Cell), l[i]? = some x → ∃ v, vs[i]? = some v ∧ RG w M env x.1 x.2 v
  | _, _, .nil, i, x, hx => by simp at hx
  | _, _, .cons h hr, 0, x, hx => by
    simp only [List.getElem?_cons_zero, Option.some.injEq] at hx
    subst hx
    exact ⟨_, rfl, h⟩
  | _, _, .cons h hr, i + 1, x, hx => by
    simp only [List.getElem?_cons_succ] at hx ⊢
    exact RGs.get hr i x hx
theorem lenA_sound (hX : XOk P X) {t : TypeId} {y : TyI} (hy : X t = some y) {x : AV} {u n : Value} (h : RAV w M env x u) (e : (lenA real y.u x).val = some n) {o : TypeId} : (∀ w, (Builtin.len_ #[t] o #[u]).run P w = .ok n w) ∧ oneV n = true := by
  obtain ⟨i, d, z, hi, hd, _, _, _, _, _, hu⟩ := tyOf_some (hX t y hy)
  unfold lenA at e
  split at e
  · rename_i el hye
    have := uOf_slice (hu.symm.trans hye)
    subst this
    have run : ∀ ad n cap, u = .slice ad n cap → ∀ w, (Builtin.len_ #[t] o #[u]).run P w = .ok (.int .i64 n) w := by
      intro ad n cap hu w
      subst hu
      simp [Builtin.len_, run_und hd, goInt]
    split at e
    · simp only [val_ok, Option.some.injEq] at e
      subst e
      cases h with
      | one h => cases h with
        | arr => exact ⟨run _ _ _ rfl, rfl⟩
    · simp only [val_ok, Option.some.injEq] at e
      subst e
      cases h with
      | one h => cases h with
        | pv h => cases h; exact ⟨run _ _ _ rfl, rfl⟩
    · simp only [val_ok, Option.some.injEq] at e
      subst e
      cases h with
      | one h => cases h with
        | pv h =>
          generalize hOO : ([] : List Nat) = O0 at h
          cases h with
          | nil => exact ⟨run _ _ _ rfl, rfl⟩
          | sh => exact ⟨run _ _ _ rfl, rfl⟩
          | un => cases hOO
    · simp [val_stuck] at e
  · rename_i hye
    have := uOf_str (hu.symm.trans hye)
    subst this
    split at e
    · simp only [val_ok, Option.some.injEq] at e
      subst e
      obtain rfl := RAV.sc h
      refine ⟨fun w => ?_, rfl⟩
      simp [Builtin.len_, run_und hd, goInt, real]
    · simp [val_stuck] at e
  · simp [val_stuck] at e
theorem run_call_len {o : Oper} {c : Call} (ho : o.op = .call c) (hb : c.callee = .builtin .len) {x : Operand} {t : TypeId} (ha : c.args.toList = [x]) (ht : c.argTypes.toList = [t]) {v : Value} {w' : World}
    (h : (Builtin.len_ #[t] o.type #[a.eval x]).run P w = .ok v w') : (execOp a.eval o).run P w = .ok (.value v) w' := by
  have ha' : c.args = #[x] := by rw [← Array.toArray_toList (xs := c.args), ha]
  have ht' : c.argTypes = #[t] := by rw [← Array.toArray_toList (xs := c.argTypes), ht]
  obtain ⟨callee, args, argTypes⟩ := c
  dsimp only at hb ha' ht'
  subst hb ha' ht'
  unfold execOp
  simp only [ho, resolve, invoke, builtin, Sem.run_bind, Sem.run_pure, Result.andThen_ok, List.map_toArray, List.map_cons, List.map_nil, h]
theorem run_call_min {o : Oper} {c : Call} (ho : o.op = .call c) (hb : c.callee = .builtin .min) {x y : Operand} (ha : c.args.toList = [x, y]) {k k' : IntKind} {n m : Int} (hx : a.eval x = .int k n) (hy : a.eval y = .int k' m) {w' : World} :
    (execOp a.eval o).run P w' = .ok (.value (.int k (real.mn n m))) w' := by
  have ha' : c.args = #[x, y] := by rw [← Array.toArray_toList (xs := c.args), ha]
  obtain ⟨callee, args, argTypes⟩ := c
  dsimp only at hb ha'
  subst hb ha'
  unfold execOp
  simp only [ho, resolve, invoke, builtin, Sem.run_bind, Sem.run_pure, Result.andThen_ok, List.map_toArray, List.map_cons, List.map_nil, hx, hy, Builtin.min_, List.foldlM_cons, List.foldlM_nil, Builtin.min2]
  rfl
theorem run_call_max {o : Oper} {c : Call} (ho : o.op = .call c) (hb : c.callee = .builtin .max) {x y : Operand} (ha : c.args.toList = [x, y]) {k k' : IntKind} {n m : Int} (hx : a.eval x = .int k n) (hy : a.eval y = .int k' m) {w' : World} :
    (execOp a.eval o).run P w' = .ok (.value (.int k (real.mx n m))) w' := by
  have ha' : c.args = #[x, y] := by rw [← Array.toArray_toList (xs := c.args), ha]
  obtain ⟨callee, args, argTypes⟩ := c
  dsimp only at hb ha'
  subst hb ha'
  unfold execOp
  simp only [ho, resolve, invoke, builtin, Sem.run_bind, Sem.run_pure, Result.andThen_ok, List.map_toArray, List.map_cons, List.map_nil, hx, hy, Builtin.max_, List.foldlM_cons, List.foldlM_nil, Builtin.max2]
  rfl
theorem fieldOf_sound (hX : XOk P X) {t : TypeId} {f off sz : Nat} {g : Bool} (hf : (fieldOf X t f).val = some (off, sz, g)) :
    ∃ fl fs fi fd, P.underlying t = some (.struct fs) ∧ fs[f]? = some fl ∧ fl.offset = off ∧ P.info? fl.type = some fi ∧ fi.size = sz ∧ P.underlying fl.type = some fd ∧ aggOf fd = g ∧ sz ≠ 0 := by
  unfold fieldOf typ at hf
  rw [val_do] at hf
  obtain ⟨y, hy, hf⟩ := some_bind hf
  rw [val_of] at hy
  split at hf
  · rename_i fs hu
    split at hf
    · rename_i off' sz' g' hfs
      split at hf
      · rename_i hz
        simp only [val_ok, Option.some.injEq, Prod.mk.injEq] at hf
        obtain ⟨rfl, rfl, rfl⟩ := hf
        obtain ⟨i, d, z, hi, hd, _, _, _, _, _, hu'⟩ := tyOf_some (hX t y hy)
        obtain ⟨fl, rfl, _, hfl⟩ := uOf_struct (hu'.symm.trans hu)
        obtain ⟨fl', fi, fd, h1, h2, h3, h4, h5, h6⟩ := hfl f _ _ _ hfs
        exact ⟨fl', _, fi, fd, hd, h1, h2, h3, h4, h5, h6, beq_ne hz⟩
      · simp [val_stuck] at hf
    · simp [val_stuck] at hf
  · simp [val_stuck] at hf
end
end Go.Aix
/-
  THE CALCULUS, FOURTEENTH TEXT: every operation that is no call of a function.
-/
namespace Go.Aix
section
variable {P : Program} {X : Ctx} {E : Ent} {β : Nat → Nat × Nat} {O : Nat → List Nat} {S : St} {σ : Store} {next : Nat} {a : Act} {w : World} {M : Nat → Prop} {env : EnvT}
theorem fieldPart_sound (hX : XOk P X) {t : TypeId} {f off sz : Nat} {g : Bool} {cs : List Cell} {u : Value} {x : AV} (hf : (fieldOf X t f).val = some (off, sz, g)) (h : RAV w M env (.ag cs) u) (hle : Nat.ble (off + sz) cs.length = true)
    (e : (mk g ((cs.drop off).take sz)).val = some x) : ∃ v, (∀ w, (Instr.field t u f).run P w = .ok v w) ∧ RAV w M env x v := by
  obtain ⟨fl, fs, fi, fd, h1, h2, h3, h4, h5, h6, h7, h8⟩ := fieldOf_sound hX hf
  have hle := Nat.le_of_ble_eq_true hle
  cases h with
  | ag h =>
    rename_i vs
    have hl := h.length
    simp at hl
    obtain ⟨m1, m2⟩ := mk_sound ((h.drop off).take sz) e
    refine ⟨_, fun w => ?_, m1⟩
    unfold Instr.field
    simp only [Sem.run_bind, run_und h1, Result.andThen_ok, h2, asAgg, Sem.run_pure, part, run_isAgg h6, h7, run_size h4, h5, h3]
    cases g with
    | true =>
      simp only [if_true, Sem.run_bind, run_size h4, h5, Result.andThen_ok, Sem.run_pure, gv]
      congr 2
      apply Array.ext'
      simp [List.drop_take]
    | false =>
      have m2 := m2 rfl
      simp only [Bool.false_eq_true, if_false, gv]
      have hlt : off < vs.size := by omega
      have hsz1 : sz = 1 := by
        rw [List.length_take, List.length_drop] at m2
        simp at m2
        omega
      subst hsz1
      rw [Array.getElem?_eq_getElem hlt]
      simp only [Sem.run_pure]
      congr 1
      rw [List.drop_eq_getElem_cons (by simpa using hlt)]
      simp
theorem mapM_of_get {α γ : Type} {f : α → Option γ} : ∀ {l : List α} {r : List γ}, r.length = l.length → (∀ (k : Nat) (x : α), l[k]? = some x → ∃ y, f x = some y ∧ r[k]? = some y) → l.mapM f = some r
  | [], r, hl, _ => by
    have : r = [] := List.length_eq_zero_iff.1 hl
    subst this; rfl
  | x :: l, [], hl, _ => by simp at hl
  | x :: l, y :: r, hl, h => by
    obtain ⟨z, h1, h2⟩ := h 0 x rfl
    simp at h2
    subst h2
    have := mapM_of_get (l := l) (r := r) (by simpa using hl) (fun k x' hx => h (k + 1) x' hx)
    simp [List.mapM_cons, h1, this]
theorem build_sound (hX : XOk P X) (h : Rel E β O S a w) {t : TypeId} {y : TyI} {fs : List (Nat × Nat × Bool)} {parts : Array (Nat × Operand)} {ps : List (Nat × Nat × List Cell)} {cs : List Cell} (hy : X t = some y) (hu : y.u = .struct fs)
    (h1 : (partsA S (placeOf fs) parts.toList).val = some ps) (h2 : (fillA y.zero ps).val = some cs) : ∃ v, (Instr.build t (parts.map fun (i, x) => (i, a.eval x))).run P w = .ok v w ∧ RAV w (Mof E β O S.σ) (envOf β S.σ) (.ag cs) v := by
  obtain ⟨i, d, z, hi, hd', hz, hzs, _, hsz, _, hu'⟩ := tyOf_some (hX t y hy)
  obtain ⟨fl, rfl, hlen, hfl⟩ := uOf_struct (hu'.symm.trans hu)
  have hR : RCs w (Mof E β O S.σ) (envOf β S.σ) y.zero z.cells.toList := cellsOf_sound hzs
  have hp : fl.toList.mapM (fun f => (P.info? f.type).map fun i => (f.offset, i.size)) = some (fs.map fun x => (x.1, x.2.1)) := by
    refine mapM_of_get (by simpa using hlen) ?_
    intro k f hf
    have hk : k < fs.length := by
      have := (List.getElem?_eq_some_iff.1 hf).1
      simp at this; omega
    obtain ⟨⟨off, sz, g⟩, hfsk'⟩ : ∃ x, fs[k]? = some x := ⟨_, List.getElem?_eq_getElem hk⟩
    obtain ⟨f', fi, fd, a1, a2, a3, a4, a5, a6⟩ := hfl k off sz g hfsk'
    have : f = f' := by
      have e1 : fl.toList[k]? = some f' := by simpa using a1
      rw [hf] at e1
      exact Option.some.inj e1
    subst this
    exact ⟨(off, sz), by rw [a3]; simp [a2, a4], by simp [hfsk']⟩
  obtain ⟨vs', f1, f2, f3⟩ := fillA_sound h (pl := ((fs.map fun x => (x.1, x.2.1)).toArray[·]?)) (place := placeOf fs) (by
    intro k x hx
    unfold placeOf at hx
    split at hx
    · rename_i off sz g hk
      simp only [Option.some.injEq] at hx
      subst hx
      simp [hk]
    · cases hx) h1 h2 hR
  refine ⟨_, run_build w t _ vs' ?_, .ag f2⟩
  unfold Program.built
  simp only [hi, hd', hz, hp]
  rw [Array.toList_map]
  exact f1
theorem step_sound (hX : XOk P X) {o : Oper} {pos : Bool} {S' : St} (h : Rel E β O S a w) (hd : ∀ t, o.dst = some t → t < a.tmps.size) (e : (stepOp X real pos S o).val = some S') : Stepped P E o a w S' := by
  unfold stepOp at e
  split at e
  · -- move
    rename_i x ho
    rw [val_do] at e
    obtain ⟨v, h1, e⟩ := some_bind e
    exact value_step h hd (by simp only [execOp, ho]; rfl) (evalO_sound h h1) e
  · rename_i x ho
    rw [val_do] at e
    obtain ⟨v, h1, e⟩ := some_bind e
    exact value_step h hd (by simp only [execOp, ho]; rfl) (evalO_sound h h1) e
  · -- pick
    rename_i c x y ho
    rw [val_do] at e
    obtain ⟨t, h1, e⟩ := some_bind e
    have hc := evalO_sound h h1
    split at e
    · rename_i b
      have hc := RAV.sc hc
      rw [val_ask] at e
      have run : (execOp a.eval o).run P w = .ok (.value (if b then a.eval x else a.eval y)) w := by
        simp only [execOp, ho, hc, asBool]
        cases b <;> rfl
      cases b with
      | true =>
        simp only at e
        rw [val_do] at e
        obtain ⟨v, h2, e⟩ := some_bind e
        exact value_step h hd run (evalO_sound h h2) e
      | false =>
        simp only at e
        rw [val_do] at e
        obtain ⟨v, h2, e⟩ := some_bind e
        exact value_step h hd run (evalO_sound h h2) e
    · simp [val_stuck] at e
  · -- alloc
    rename_i t ho
    rw [val_do] at e
    obtain ⟨y, hy, e⟩ := some_bind e
    simp only [val_ok, Option.some.injEq] at e
    subst e
    exact alloc_step hX ho h hd (typ_some hy)
  · -- box
    rename_i t x ho
    rw [val_do] at e
    obtain ⟨v, h1, e⟩ := some_bind e
    rw [val_do] at e
    obtain ⟨cs, h2, e⟩ := some_bind e
    simp only [val_ok, Option.some.injEq] at e
    subst e
    exact box_step ho h hd h1 h2
  · -- build
    rename_i t parts ho
    rw [val_do] at e
    obtain ⟨y, hy, e⟩ := some_bind e
    split at e
    · rename_i fs hu
      rw [val_do] at e
      obtain ⟨ps, h1, e⟩ := some_bind e
      rw [val_do] at e
      obtain ⟨cs, h2, e⟩ := some_bind e
      obtain ⟨v, r1, r2⟩ := build_sound (P := P) hX h (typ_some hy) hu h1 h2
      exact value_step h hd (by simp only [execOp, ho]; exact run_v r1) r2 e
    · simp [val_stuck] at e
  · -- buildSlice
    rename_i t n parts ho
    rw [val_do] at e
    obtain ⟨y, hy, e⟩ := some_bind e
    split at e
    · rename_i hb
      rw [val_do] at e
      obtain ⟨ps, h1, e⟩ := some_bind e
      rw [val_do] at e
      obtain ⟨cs, h2, e⟩ := some_bind e
      rw [val_do] at e
      obtain ⟨⟨vs, S1⟩, h3, e⟩ := some_bind e
      simp only [val_ok, Option.some.injEq] at e
      subst e
      exact buildSlice_step hX ho h hd hy hb h1 h2 h3
    · simp [val_stuck] at e
  · -- load
    rename_i t x ho
    rw [val_do] at e
    obtain ⟨y, hy, e⟩ := some_bind e
    rw [val_do] at e
    obtain ⟨av, h1, e⟩ := some_bind e
    rw [val_do] at e
    obtain ⟨v, h2, e⟩ := some_bind e
    obtain ⟨u, r1, r2⟩ := loadA_sound (P := P) hX (typ_some hy) h (evalO_sound h h1) h2
    exact value_step h hd (by simp only [execOp, ho]; exact run_v r1) r2 e
  · -- store
    rename_i t x y ho
    rw [val_do] at e
    obtain ⟨yi, hy, e⟩ := some_bind e
    rw [val_do] at e
    obtain ⟨av, h1, e⟩ := some_bind e
    rw [val_do] at e
    obtain ⟨v, h2, e⟩ := some_bind e
    rw [val_do] at e
    obtain ⟨cs, h3, e⟩ := some_bind e
    split at e
    · rename_i hb
      rw [val_do] at e
      obtain ⟨S1, h4, e⟩ := some_bind e
      simp only [val_ok, Option.some.injEq] at e
      subst e
      obtain ⟨i, d, z, hi, _, _, _, _, hsz, _, _⟩ := tyOf_some (hX t yi (typ_some hy))
      obtain ⟨w', O', r1, r2⟩ := storeA_sound (P := P) h hi (by rw [← hsz]; exact beq_eq hb) (evalO_sound h h1) (AV.cells_sound (evalO_sound h h2) h3) h4
      refine ⟨.skip, w', β, O', by simp only [execOp, ho]; exact run_u r1, .inr ⟨rfl, ?_⟩⟩
      exact r2.setDst hd (.tp (by exact .nil))
    · simp [val_stuck] at e
  · -- nilCheck
    rename_i x ho
    rw [val_do] at e
    obtain ⟨v, h1, e⟩ := some_bind e
    have hv := evalO_sound h h1
    split at e
    · refine value_step h hd ?_ hv e
      simp only [execOp, ho]
      generalize a.eval x = u at hv
      cases hv with
      | one hv => cases hv with
        | ptr => rfl
    · refine value_step h hd ?_ hv e
      simp only [execOp, ho]
      generalize a.eval x = u at hv
      cases hv with
      | one hv => cases hv with
        | ep => rfl
    · simp [val_stuck] at e
  · -- binOp
    rename_i op t x y _ ho
    rw [val_do] at e
    obtain ⟨av, h1, e⟩ := some_bind e
    rw [val_do] at e
    obtain ⟨bv, h2, e⟩ := some_bind e
    have ha := evalO_sound h h1
    have hb := evalO_sound h h2
    split at e
    · rename_i u
      split at e
      · rename_i u'
        have ha := RAV.sc ha
        have hb := RAV.sc hb
        rw [val_do] at e
        obtain ⟨v, h3, e⟩ := some_bind e
        obtain ⟨r1, r2, r3, r4⟩ := binA_sound (P := P) (w := w) hX h3
        refine value_step h hd ?_ (RAV.scal r2) e
        simp only [execOp, ho, ha, hb]
        refine run_v ?_
        rw [Sem.run_bind, run_eqGuard r4 r3, Result.andThen_ok, r1]
      · simp [val_stuck] at e
    · simp [val_stuck] at e
  · -- unOp
    rename_i op _ x ho
    rw [val_do] at e
    obtain ⟨av, h1, e⟩ := some_bind e
    have ha := evalO_sound h h1
    split at e
    · rename_i u
      have ha := RAV.sc ha
      rw [val_do] at e
      obtain ⟨v, h3, e⟩ := some_bind e
      obtain ⟨r1, r2⟩ := unA_sound (P := P) (w := w) h3
      refine value_step h hd ?_ (RAV.scal r2) e
      simp only [execOp, ho, ha]
      exact run_v r1
    · simp [val_stuck] at e
  · -- convert
    rename_i s t x ho
    rw [val_do] at e
    obtain ⟨y0, hy0, e⟩ := some_bind e
    rw [val_do] at e
    obtain ⟨y, hy, e⟩ := some_bind e
    rw [val_do] at e
    obtain ⟨av, h1, e⟩ := some_bind e
    have ha := evalO_sound h h1
    obtain ⟨i, d, z, hi, hd', _, _, _, _, _, hu⟩ := tyOf_some (hX t y (typ_some hy))
    obtain ⟨i0, d0, z0, hi0, hd0, _, _, _, _, _, hu0⟩ := tyOf_some (hX s y0 (typ_some hy0))
    split at e
    · rename_i k hyk
      have := uOf_int (hu.symm.trans hyk)
      subst this
      split at e
      · rename_i k' n
        have ha := RAV.sc ha
        refine value_step h hd ?_ (RAV.scal rfl) e
        simp only [execOp, ho, ha]
        refine run_v ?_
        unfold convert
        simp only [Sem.run_bind, run_und hd0, run_und hd', Result.andThen_ok]
        rfl
      · simp [val_stuck] at e
    · simp [val_stuck] at e
  · -- makeFunc
    rename_i fn first caps ho
    split at e
    · rename_i f
      split at e
      · rename_i hf
        rw [val_do] at e
        obtain ⟨ps, h1, e⟩ := some_bind e
        have hc := capsA_sound h h1
        refine value_step h hd (u := .func (.func f) #[] (caps.map a.eval)) ?_ (.one (.fn (by rw [Array.toList_map]; exact hc))) e
        have : first = #[] := by rw [← Array.toArray_toList (xs := first), hf]
        subst this
        simp only [execOp, ho]
        refine run_v ?_
        simp [Instr.makeFunc]
      · simp [val_stuck] at e
    · simp [val_stuck] at e
  · -- makeSlice
    rename_i t l c ho
    rw [val_do] at e
    obtain ⟨y, hy, e⟩ := some_bind e
    rw [val_do] at e
    obtain ⟨lv, hl, e⟩ := some_bind e
    rw [val_do] at e
    obtain ⟨cv, hc, e⟩ := some_bind e
    rw [val_do] at e
    obtain ⟨n, hn, e⟩ := some_bind e
    rw [val_do] at e
    obtain ⟨m, hm, e⟩ := some_bind e
    rw [val_demand] at e
    split at e
    · rename_i hnm
      rw [val_demand] at e
      split at e
      · rename_i hle
        split at e
        · rename_i hz0
          rw [val_do] at e
          obtain ⟨z, hz1, e⟩ := some_bind e
          simp only [val_ok, Option.some.injEq] at e
          subst e
          exact makeSlice_step hX ho h hd hy hl hc hn hm hnm hle hz0 hz1
        · simp [val_stuck] at e
      · cases e
    · cases e
  · -- slice
    rename_i t x lo hi mx ho
    split at e
    · rw [val_do] at e
      obtain ⟨av, h1, e⟩ := some_bind e
      rw [val_do] at e
      obtain ⟨lv, h2, e⟩ := some_bind e
      rw [val_do] at e
      obtain ⟨hv, h3, e⟩ := some_bind e
      rw [val_do] at e
      obtain ⟨y, hy, e⟩ := some_bind e
      obtain ⟨i, d, z, hi', hd', _, _, _, _, _, hu⟩ := tyOf_some (hX t y (typ_some hy))
      split at e
      · rename_i el hye
        have := uOf_slice (hu.symm.trans hye)
        subst this
        rw [val_do] at e
        obtain ⟨ye, hye2, e⟩ := some_bind e
        obtain ⟨ie, de, ze, hie, hde, _, _, _, hsz, _, _⟩ := tyOf_some (hX el ye (typ_some hye2))
        rw [val_do] at e
        obtain ⟨v, h4, e⟩ := some_bind e
        obtain ⟨u, r1, r2⟩ := sliceA_sound (P := P) (w := w) hd' hie hsz.symm (evalO_sound h h1) (evalOO_sound h h2) (evalOO_sound h h3) h4
        exact value_step h hd (by simp only [execOp, ho]; exact run_v r1) r2 e
      · rename_i hye
        have := uOf_str (hu.symm.trans hye)
        subst this
        rw [val_do] at e
        obtain ⟨v, h4, e⟩ := some_bind e
        obtain ⟨u, r1, r2⟩ := sliceStrA_sound (P := P) (w := w) hd' (evalO_sound h h1) (evalOO_sound h h2) (evalOO_sound h h3) h4
        exact value_step h hd (by simp only [execOp, ho]; exact run_v r1) r2 e
      · simp [val_stuck] at e
    · simp [val_stuck] at e
  · -- fieldAddr
    rename_i t x f ho
    rw [val_do] at e
    obtain ⟨⟨off, sz, g⟩, hf, e⟩ := some_bind e
    simp only at e
    rw [val_do] at e
    obtain ⟨av, h1, e⟩ := some_bind e
    rw [val_do] at e
    obtain ⟨v, h2, e⟩ := some_bind e
    obtain ⟨u, r1, r2⟩ := fieldAddrA_sound (P := P) (w := w) hX hf (evalO_sound h h1) h2
    exact value_step h hd (by simp only [execOp, ho]; exact run_v (r1 w)) r2 e
  · -- field
    rename_i t x f ho
    rw [val_do] at e
    obtain ⟨⟨off, sz, g⟩, hf, e⟩ := some_bind e
    simp only at e
    rw [val_do] at e
    obtain ⟨av, h1, e⟩ := some_bind e
    have ha := evalO_sound h h1
    split at e
    · split at e
      · rename_i hle
        rw [val_do] at e
        obtain ⟨v, h2, e⟩ := some_bind e
        obtain ⟨u, r1, r2⟩ := fieldPart_sound (P := P) (w := w) hX hf ha hle h2
        exact value_step h hd (by simp only [execOp, ho]; exact run_v (r1 w)) r2 e
      · simp [val_stuck] at e
    · simp [val_stuck] at e
  · -- indexAddr
    rename_i t x i ho
    rw [val_do] at e
    obtain ⟨y, hy, e⟩ := some_bind e
    rw [val_do] at e
    obtain ⟨av, h1, e⟩ := some_bind e
    rw [val_do] at e
    obtain ⟨iv, h2, e⟩ := some_bind e
    rw [val_do] at e
    obtain ⟨n, h3, e⟩ := some_bind e
    rw [val_do] at e
    obtain ⟨v, h4, e⟩ := some_bind e
    obtain ⟨k, hk⟩ := asI_sound (evalO_sound h h2) h3
    obtain ⟨u, r1, r2⟩ := indexAddrA_sound (P := P) (w := w) (k := k) hX hy (evalO_sound h h1) h4
    exact value_step h hd (by simp only [execOp, ho, hk]; exact run_v (r1 w)) r2 e
  · -- index
    rename_i t x i ho
    rw [val_do] at e
    obtain ⟨y, hy, e⟩ := some_bind e
    rw [val_do] at e
    obtain ⟨av, h1, e⟩ := some_bind e
    rw [val_do] at e
    obtain ⟨iv, h2, e⟩ := some_bind e
    rw [val_do] at e
    obtain ⟨n, h3, e⟩ := some_bind e
    obtain ⟨k, hk⟩ := asI_sound (evalO_sound h h2) h3
    obtain ⟨i0, d, z, hi', hd', _, _, _, _, _, hu⟩ := tyOf_some (hX t y (typ_some hy))
    have ha := evalO_sound h h1
    split at e
    · rename_i hye
      have := uOf_str (hu.symm.trans hye)
      subst this
      split at e
      · rename_i s e0 e1
        clear e0 e1
        have ha := RAV.sc ha
        rw [val_demand] at e
        split at e
        · rename_i hin
          have hin : 0 ≤ n ∧ n < (s.size : Int) := of_decide_eq_true hin
          refine value_step h hd ?_ (RAV.scal rfl) e
          simp only [execOp, ho, hk, ha]
          refine run_v ?_
          have hlt : n.toNat < s.size := by omega
          have hg : s[n.toNat]? = some s[n.toNat] := getElem?_pos s n.toNat hlt
          unfold Instr.index
          simp only [Sem.run_bind, asIntOf, Sem.run_pure, Result.andThen_ok, run_und hd', hin.1, if_true, hg]
          simp [real, hg]
        · cases e
      · simp [val_stuck] at e
    · simp [val_stuck] at e
  · -- extract
    rename_i x i ho
    rw [val_do] at e
    obtain ⟨av, h1, e⟩ := some_bind e
    have ha := evalO_sound h h1
    split at e
    · split at e
      · rename_i g cs hg
        rw [val_do] at e
        obtain ⟨v, h2, e⟩ := some_bind e
        generalize hu : a.eval x = u at ha
        cases ha with
        | tp ha =>
          rename_i vs
          obtain ⟨u, hu1, hu2⟩ := ha.get i _ hg
          refine value_step h hd (u := u) ?_ ?_ e
          · simp only [execOp, ho, hu]
            refine run_v ?_
            unfold Instr.extract
            have : vs[i]? = some u := by simpa using hu1
            simp [this]
          · cases g with
            | true =>
              obtain ⟨us, rfl, hus⟩ := hu2
              simp only [mk, val_ok, Option.some.injEq] at h2
              subst h2
              exact .ag hus
            | false =>
              obtain ⟨c, rfl, hc⟩ := hu2
              simp only [mk, val_ok, Option.some.injEq] at h2
              subst h2
              exact .one hc
      · simp [val_stuck] at e
    · simp [val_stuck] at e
  · -- a built-in function
    rename_i c ho
    split at e
    · rename_i b hb
      unfold builtinA at e
      split at e
      · split at e
        · rename_i x ha
          split at e
          · rename_i t ht
            rw [val_do] at e
            obtain ⟨y, hy, e⟩ := some_bind e
            rw [val_do] at e
            obtain ⟨v, h1, e⟩ := some_bind e
            rw [val_do] at e
            obtain ⟨n, h2, e⟩ := some_bind e
            obtain ⟨r1, r2⟩ := lenA_sound (P := P) (w := w) hX (typ_some hy) (evalO_sound h h1) (o := o.type) h2
            exact value_step h hd (run_call_len ho hb ha ht (r1 w)) (RAV.scal r2) e
          · simp [val_stuck] at e
        · simp [val_stuck] at e
      · split at e
        · rename_i s x ha
          split at e
          · rename_i t t' ht
            rw [val_do] at e
            obtain ⟨y, hy, e⟩ := some_bind e
            rw [val_do] at e
            obtain ⟨y', hy', e⟩ := some_bind e
            rw [val_do] at e
            obtain ⟨sv, h1, e⟩ := some_bind e
            rw [val_do] at e
            obtain ⟨xv, h2, e⟩ := some_bind e
            split at e
            · rename_i hz0
              exact append_step hX ho hb ha ht h hd hy hy' h1 h2 (beq_eq hz0) e
            · simp [val_stuck] at e
          · simp [val_stuck] at e
        · simp [val_stuck] at e
      · split at e
        · rename_i x y ha
          rw [val_do] at e
          obtain ⟨av, h1, e⟩ := some_bind e
          rw [val_do] at e
          obtain ⟨bv, h2, e⟩ := some_bind e
          split at e
          · rename_i k n
            split at e
            · rename_i k' m
              have q1 := RAV.sc (evalO_sound h h1)
              have q2 := RAV.sc (evalO_sound h h2)
              exact value_step h hd (run_call_min ho hb ha q1 q2) (RAV.scal rfl) e
            · simp [val_stuck] at e
          · simp [val_stuck] at e
        · simp [val_stuck] at e
      · split at e
        · rename_i x y ha
          rw [val_do] at e
          obtain ⟨av, h1, e⟩ := some_bind e
          rw [val_do] at e
          obtain ⟨bv, h2, e⟩ := some_bind e
          split at e
          · rename_i k n
            split at e
            · rename_i k' m
              have q1 := RAV.sc (evalO_sound h h1)
              have q2 := RAV.sc (evalO_sound h h2)
              exact value_step h hd (run_call_max ho hb ha q1 q2) (RAV.scal rfl) e
            · simp [val_stuck] at e
          · simp [val_stuck] at e
        · simp [val_stuck] at e
      · simp [val_stuck] at e
    · simp [val_stuck] at e
  · simp [val_stuck] at e
end
end Go.Aix
/-
  THE CALCULUS, FIFTEENTH TEXT: the machine: a function's code is stepped through on what is known; where a loop begins, or a region whose order is drawn, it stops.
-/
namespace Go.Aix
def base (f : FuncId) : Frame := { (default : Frame) with fn := f, kind := .normal }
def At (P : Program) (f : FuncId) (R : Value → World → Prop) (items : List Item) (a : Act) (w : World) : Prop :=
  ∀ cs, ∃ v w' fr, R v w' ∧ Steps P (lone ((base f).at a items) cs w) (lone fr cs w') ∧ fr.fn = f ∧ fr.leaving P w' (.returned v)
section
variable {P : Program} {f : FuncId} {R : Value → World → Prop} {a : Act} {w : World} {k : List Item}
theorem At.head {k' : List Item} {a' : Act} {w' : World} (hs : ∀ cs, step P (lone ((base f).at a k) cs w) = .next (lone ((base f).at a' k') cs w')) (h : At P f R k' a' w') : At P f R k a w :=
  fun cs => let ⟨v, w2, fr, hR, hst, hl⟩ := h cs; ⟨v, w2, fr, hR, .head (hs cs) hst, hl⟩
theorem At.skip (h : At P f R k a w) : At P f R (.code .skip :: k) a w := h.head fun _ => step_skip
theorem At.label {l : Nat} (h : At P f R k a w) : At P f R (.code (.label l) :: k) a w := h.head fun _ => step_label
theorem At.inBlock {id : Nat} (h : At P f R k a w) : At P f R (.inBlock id :: k) a w := h.head fun _ => step_inBlock
theorem At.seq {x y : Code} (h : At P f R (.code x :: .code y :: k) a w) : At P f R (.code (.seq x y) :: k) a w := h.head fun _ => step_seq
theorem At.cond {c : Operand} {x y : Code} {t : Bool} (hc : a.eval c = .bool t) (h : At P f R (.code (if t then x else y) :: k) a w) : At P f R (.code (.cond c x y) :: k) a w := h.head fun _ => step_cond hc
theorem At.block {id : Nat} {c : Code} (h : At P f R (.code c :: .inBlock id :: k) a w) : At P f R (.code (.block id c) :: k) a w := h.head fun _ => step_block
theorem At.loop {c : Code} (h : At P f R (.code c :: .inLoop c :: k) a w) : At P f R (.code (.loop c) :: k) a w := h.head fun _ => step_loop
theorem At.inLoop {c : Code} (h : At P f R (.code c :: .inLoop c :: k) a w) : At P f R (.inLoop c :: k) a w := h.head fun _ => step_inLoop
theorem At.exit {id : Nat} {k' : List Item} (hk : exitTo id k = some k') (h : At P f R k' a w) : At P f R (.code (.exit id) :: k) a w := h.head fun _ => step_exit hk
theorem At.ret {fn : Func} {v : Value} (hf : P.funcs[f]? = some fn) (hd : a.defers = []) (hr : (results fn a.tmps).run P w = .ok v w) (hR : R v w) : At P f R (.code .ret :: k) a w :=
  fun cs => ⟨v, w, _, hR, .one step_ret, rfl, rfl, hd, rfl, fn, hf, hr⟩
theorem At.end {fn : Func} {v : Value} (hf : P.funcs[f]? = some fn) (hd : a.defers = []) (hr : (results fn a.tmps).run P w = .ok v w) (hR : R v w) : At P f R [] a w :=
  fun cs => ⟨v, w, _, hR, .one step_end, rfl, rfl, hd, rfl, fn, hf, hr⟩
def Onward (P : Program) (f : FuncId) (R : Value → World → Prop) (k : List Item) : Exit → Act → World → Prop
  | .normal, a, w => At P f R k a w
  | _, _, _ => False
theorem At.ofArrives {m : Machine} {e : Exit} {cs : List Frame} (hq : Onward P f R k e a w) (harr : Arrives P m (base f) k cs e a w) : ∃ v w' fr, R v w' ∧ Steps P m (lone fr cs w') ∧ fr.fn = f ∧ fr.leaving P w' (.returned v) := by
  cases e <;> simp only [Onward] at hq
  obtain ⟨v, w', fr, hR, hs, hl⟩ := hq cs
  exact ⟨v, w', fr, hR, harr.trans hs, hl⟩
theorem At.ops {ops : Array Oper} {l : List Nat} (h : wpOps P ops (Onward P f R k) l a w) : At P f R (.inRegion ops l :: k) a w := by
  intro cs
  obtain ⟨e, a', w', hq, harr⟩ := wp_ops l a w h (base f) k cs
  exact At.ofArrives hq harr
theorem At.code {c : Code} (h : c.wp P (Onward P f R k) a w) : At P f R (.code c :: k) a w := by
  intro cs
  obtain ⟨e, a', w', hq, harr⟩ := h (base f) k cs
  exact At.ofArrives hq harr
theorem At.region {id : Nat} {ops : Array Oper} (h : wpOps P ops (Onward P f R k) (List.range ops.size) a w) : At P f R (.code (.region id ops false) :: k) a w := At.code (wp_region h)
end
inductive Itm where
  | code (p : List Nat) (c : Code)
  | blk (id : Nat)
  | lop (p : List Nat) (c : Code)
def Itm.item : Itm → Item
  | .code _ c => .code c
  | .blk id => .inBlock id
  | .lop _ c => .inLoop c
def place : Code → List Nat → List Item → List Item
  | c, [], k => .code c :: k
  | .seq x y, d :: p, k => match d with
    | 0 => place x p (.code y :: k)
    | _ => place y p k
  | .cond _ x y, d :: p, k => match d with
    | 0 => place x p k
    | _ => place y p k
  | .block id c, _ :: p, k => place c p (.inBlock id :: k)
  | .loop c, _ :: p, k => place c p (.inLoop c :: k)
  | c, _ :: _, k => .code c :: k
def into (d : Nat) (c : Code) (k : List Item) : List Item := match c with
  | .seq x y => match d with
    | 0 => .code x :: .code y :: k
    | _ => .code y :: k
  | .cond _ x y => match d with
    | 0 => .code x :: k
    | _ => .code y :: k
  | .block id c => .code c :: .inBlock id :: k
  | .loop c => .code c :: .inLoop c :: k
  | c => .code c :: k
theorem place_snoc (d : Nat) : ∀ (p : List Nat) (c c' : Code) (k k' : List Item), place c p k = .code c' :: k' → place c (p ++ [d]) k = into d c' k'
  | [], c, c', k, k', h => by
    have h' : (Item.code c :: k) = .code c' :: k' := by cases c <;> exact h
    simp only [List.cons.injEq, Item.code.injEq] at h'
    obtain ⟨rfl, rfl⟩ := h'
    cases c <;> simp only [List.nil_append, into] <;> first
      | (cases d <;> simp [place]; done)
      | simp [place]
  | e :: p, c, c', k, k', h => by
    cases c <;> simp only [List.cons_append, place] at h ⊢
    case seq x y =>
      cases e <;> exact place_snoc d p _ c' _ k' h
    case cond x y =>
      cases e <;> exact place_snoc d p _ c' _ k' h
    case block => exact place_snoc d p _ c' _ k' h
    case loop => exact place_snoc d p _ c' _ k' h
    all_goals
      simp only [List.cons.injEq, Item.code.injEq] at h
      obtain ⟨rfl, rfl⟩ := h
      simp [into]
def Good (b : Code) : List Itm → Prop
  | [] => True
  | .code p c :: k => place b p [] = .code c :: k.map Itm.item ∧ Good b k
  | .blk _ :: k => Good b k
  | .lop p c :: k => place b p [] = .code (.loop c) :: k.map Itm.item ∧ Good b k
def start : List Nat → Code → List Nat → List Itm → List Itm
  | q, c, [], k => .code q c :: k
  | q, .seq x y, d :: p, k => match d with
    | 0 => start (q ++ [0]) x p (.code (q ++ [1]) y :: k)
    | _ => start (q ++ [1]) y p k
  | q, .cond _ x y, d :: p, k => match d with
    | 0 => start (q ++ [0]) x p k
    | _ => start (q ++ [1]) y p k
  | q, .block id c, _ :: p, k => start (q ++ [0]) c p (.blk id :: k)
  | q, .loop c, _ :: p, k => start (q ++ [0]) c p (.lop q c :: k)
  | q, c, _ :: _, k => .code q c :: k
theorem start_item : ∀ (p q : List Nat) (c : Code) (k : List Itm), (start q c p k).map Itm.item = place c p (k.map Itm.item)
  | [], q, c, k => by cases c <;> simp [start, place, Itm.item]
  | d :: p, q, c, k => by
    cases c <;> simp only [start, place]
    case seq x y => cases d <;> simp [start_item p, Itm.item]
    case cond x y => cases d <;> simp [start_item p, Itm.item]
    case block => simp [start_item p, Itm.item]
    case loop => simp [start_item p, Itm.item]
    all_goals simp [Itm.item]
theorem start_good (b : Code) : ∀ (p q : List Nat) (c : Code) (k : List Itm), place b q [] = .code c :: k.map Itm.item → Good b k → Good b (start q c p k)
  | [], q, c, k, h, hg => by cases c <;> exact ⟨h, hg⟩
  | d :: p, q, c, k, h, hg => by
    have hs := fun e => place_snoc e q b c [] _ h
    cases c <;> simp only [start]
    case seq x y =>
      cases d
      · exact start_good b p _ x _ (by rw [hs 0]; rfl) ⟨by rw [hs 1]; rfl, hg⟩
      · exact start_good b p _ y _ (by rw [hs 1]; rfl) hg
    case cond x y =>
      cases d
      · exact start_good b p _ _ _ (by rw [hs 0]; rfl) hg
      · exact start_good b p _ _ _ (by rw [hs 1]; rfl) hg
    case block => exact start_good b p _ _ _ (by rw [hs 0]; rfl) hg
    case loop => exact start_good b p _ _ _ (by rw [hs 0]; rfl) ⟨h, hg⟩
    all_goals exact ⟨h, hg⟩
end Go.Aix
/-
  THE CALCULUS, SIXTEENTH TEXT: the steps of the machine on what is known, and why they hold.
-/
namespace Go.Aix
inductive Out where
  | ret (r : AV) (S : St)
  | ask (b : Bool) (k : Bool → Out)
  | must (b : Bool) (k : Out)
  | loop (p : List Nat) (S : St)
  | any (p : List Nat) (S : St)
  | both (k : Bool → Out)
  | eqs (a b : AV) (k : Out)
  | stuck
def R.out {α : Type} : R α → (α → Out) → Out
  | .ok a, f => f a
  | .ask b k, f => .ask b fun t => (k t).out f
  | .must b k, f => .must b (k.out f)
  | .stuck, _ => .stuck
def R.outOr {α : Type} : R α → Out → (α → Out) → Out
  | .ok a, _, f => f a
  | .ask b k, d, f => .ask b fun t => (k t).outOr d f
  | .must b k, d, f => .must b (k.outOr d f)
  | .stuck, d, _ => d
def Out.holds (H : AV → St → Prop) (L N : List Nat → St → Prop) : Out → Prop
  | .ret r S => H r S
  | .ask b k => (b = true → (k true).holds H L N) ∧ (b = false → (k false).holds H L N)
  | .must b k => b = true ∧ k.holds H L N
  | .loop p S => L p S
  | .any p S => N p S
  | .both k => (k true).holds H L N ∧ (k false).holds H L N
  | .eqs a b k => a = b ∧ k.holds H L N
  | .stuck => False
theorem R.outOr_holds {α : Type} {H : AV → St → Prop} {L N : List Nat → St → Prop} {d : Out} {f : α → Out} : ∀ {r : R α}, (r.outOr d f).holds H L N → (∃ x, r.val = some x ∧ (f x).holds H L N) ∨ d.holds H L N
  | .ok a, h => .inl ⟨a, rfl, h⟩
  | .ask b k, h => by
    cases b with
    | true => exact R.outOr_holds (r := k true) (h.1 rfl)
    | false => exact R.outOr_holds (r := k false) (h.2 rfl)
  | .must b k, h => by
    obtain ⟨h1, h2⟩ := h
    subst h1
    exact R.outOr_holds (r := k) h2
  | .stuck, h => .inr h
theorem R.out_holds {α : Type} {H : AV → St → Prop} {L N : List Nat → St → Prop} {f : α → Out} : ∀ {r : R α}, (r.out f).holds H L N → ∃ x, r.val = some x ∧ (f x).holds H L N
  | .ok a, h => ⟨a, rfl, h⟩
  | .ask b k, h => by
    cases b with
    | true => exact R.out_holds (r := k true) (h.1 rfl)
    | false => exact R.out_holds (r := k false) (h.2 rfl)
  | .must b k, h => by
    obtain ⟨hb, h⟩ := h
    obtain ⟨x, h1, h2⟩ := R.out_holds (r := k) h
    exact ⟨x, by simp [R.val, hb, h1], h2⟩
  | .stuck, h => h.elim
structure CallsA where
  run : FuncId → List AV → St → R (AV × St)
  /-- Does it only read? -/
  qt : FuncId → Bool
def evalOs (S : St) : List Operand → R (List AV)
  | [] => .ok []
  | x :: r => do
    let v ← evalO S x
    let vs ← evalOs S r
    .ok (v :: vs)
def capAVs : List (Nat × Nat × Nat) → List AV
  | [] => []
  | (c, i, j) :: r => .one (.ptr c i j) :: capAVs r
def appA : List AV → List AV → List AV
  | [], r => r
  | x :: l, r => x :: appA l r
section
variable (X : Ctx) (I : Ops) (Y : CallsA)
def callA (S : St) (o : Oper) (c : Call) : R St := match c.callee with
  | .value f => do
    let fv ← evalO S f
    match fv with
    | .one (.fn g caps) => do
      let args ← evalOs S c.args.toList
      let (r, S) ← Y.run g (appA args (capAVs caps)) S
      .ok (setDst S o.dst r)
    | _ => .stuck
  | _ => .stuck
def isCall (o : Oper) : Option Call := match o.op with
  | .call c => match c.callee with
    | .value _ => some c
    | _ => none
  | _ => none
def posOf (ops : Array Oper) (o : Oper) : Bool := match o.op with
  | .call c => match c.args.toList with
    | [_, .tmp t] => ops.toList.any fun q => match q.dst with
      | some d => match Nat.beq d t with
        | true => match q.op with
          | .buildSlice _ n _ => Nat.blt 0 n
          | _ => false
        | false => false
      | none => false
    | _ => false
  | _ => false
def opA (ops : Array Oper) (S : St) (o : Oper) : R St := do
  let t ← wantA ops S o
  match t with
  | true => match isCall o with
    | some c => callA Y S o c
    | none => stepOp X I (posOf ops o) S o
  | false => .ok (setDst S o.dst (.tp []))
def resA1 (S : St) : ResultVar → R (Bool × List Cell)
  | .tmp t => do
    let v ← .of (lk t S.T)
    match v with
    | .one c => .ok (false, [c])
    | .ag cs => .ok (true, cs)
    | .tp _ => .stuck
  | .cell a t => do
    let y ← typ X t
    let v ← .of (lk a S.T)
    let v ← loadA I S y v
    match v with
    | .one c => .ok (false, [c])
    | .ag cs => .ok (true, cs)
    | .tp _ => .stuck
def resAs (S : St) : List ResultVar → R (List (Bool × List Cell))
  | [] => .ok []
  | x :: r => do
    let v ← resA1 X I S x
    let vs ← resAs S r
    .ok (v :: vs)
def resA (S : St) (rs : List ResultVar) : R AV := do
  let vs ← resAs X I S rs
  match vs with
  | [(g, cs)] => mk g cs
  | vs => .ok (.tp vs)
def goOps (ops : Array Oper) : List Nat → St → R St
  | [], S => .ok S
  | i :: r, S => match ops[i]? with
    | none => goOps ops r S
    | some o => do
      let S ← opA X I Y ops S o
      goOps ops r S
def readerOp (o : Oper) : Bool := match o.op with
  | .move _ => true
  | .assign _ => true
  | .pick _ _ _ => true
  | .nilCheck _ => true
  | .binOp _ _ _ _ _ => true
  | .unOp _ _ _ => true
  | .convert _ _ _ => true
  | .load _ _ => true
  | .fieldAddr _ _ _ => true
  | .field _ _ _ => true
  | .indexAddr _ _ _ => true
  | .index _ _ _ => true
  | .extract _ _ => true
  | .call c => match c.callee with
    | .builtin b => match b with
      | .len => true
      | .min => true
      | .max => true
      | _ => false
    | .value f => match f with
      | .func g => Y.qt g
      | _ => false
    | _ => false
  | _ => false
def quietOne (ops : Array Oper) (i : Nat) (o : Oper) (j : Nat) : Bool := match ops[j]? with
  | none => false
  | some q => match q.dst with
    | none => true
    | some t => (Nat.beq i j || o.dst != some t) && (!(o.looksAt ops).contains t || (o.after.any fun e => Region.binds .any e && Nat.beq e.on j))
def quietR (ops : Array Oper) : Bool := (List.range ops.size).all fun i => match ops[i]? with
  | none => false
  | some o => readerOp Y o && (o.after.all fun e => !Region.binds .any e || Nat.blt e.on i) && (List.range ops.size).all fun j => quietOne ops i o j
def exitI (id : Nat) : List Itm → Option (List Itm)
  | [] => none
  | .blk id' :: k => match Nat.beq id' id with
    | true => some k
    | false => exitI id k
  | .code _ _ :: k => exitI id k
  | .lop _ _ :: k => exitI id k
def go (rs : List ResultVar) : Nat → List Itm → St → Out
  | 0, _, _ => .stuck
  | n + 1, [], S => (resA X I S rs).out fun r => .ret r S
  | n + 1, .blk _ :: k, S => go rs n k S
  | n + 1, .lop p _ :: _, S => .loop p S
  | n + 1, .code p c :: k, S => match c with
    | .skip => go rs n k S
    | .region _ ops d => match d with
      | false => (goOps X I Y ops (List.range ops.size) S).outOr (.any p S) fun S => go rs n k S
      | true => match quietR Y ops with
        | true => (goOps X I Y ops (List.range ops.size) S).out fun S => go rs n k S
        | false => .any p S
    | .seq x y => go rs n (.code (p ++ [0]) x :: .code (p ++ [1]) y :: k) S
    | .cond c x y => (evalO S c).out fun v => match v with
      | .one (.pv (.sc (.bool b))) => .ask b fun t => match t with
        | true => go rs n (.code (p ++ [0]) x :: k) S
        | false => go rs n (.code (p ++ [1]) y :: k) S
      | _ => .stuck
    | .block id c => go rs n (.code (p ++ [0]) c :: .blk id :: k) S
    | .loop _ => .loop p S
    | .exit id => match exitI id k with
      | some k => go rs n k S
      | none => .stuck
    | .ret => (resA X I S rs).out fun r => .ret r S
    | .label _ => go rs n k S
    | _ => .stuck
end
def Enters (P : Program) (g : FuncId) : Prop := ∃ fn, P.funcs[g]? = some fn ∧ (fn.name == "runtime.NumGoroutine") = false ∧ fn.body.isNone = false
inductive RAVs (w : World) (M : Nat → Prop) (env : EnvT) : List AV → List Value → Prop
  | nil : RAVs w M env [] []
  | cons {x : AV} {v : Value} {l : List AV} {vs : List Value} (h : RAV w M env x v) (hr : RAVs w M env l vs) : RAVs w M env (x :: l) (v :: vs)
theorem RAVs.app {w : World} {M : Nat → Prop} {env : EnvT} : ∀ {l r : List AV} {vs us : List Value}, RAVs w M env l vs → RAVs w M env r us → RAVs w M env (appA l r) (vs ++ us)
  | _, _, _, _, .nil, h => h
  | _, _, _, _, .cons h hr, h' => .cons h (RAVs.app hr h')
def CallOk (P : Program) (g : FuncId) (args : List AV) (S : St) (r : AV) (S' : St) : Prop :=
  ∀ (E : Ent) (β : Nat → Nat × Nat) (O : Nat → List Nat) (a : Act) (w : World) (vs : List Value), Rel E β O S a w → RAVs w (Mof E β O S.σ) (envOf β S.σ) args vs →
    Calls P g vs.toArray w fun
      | .returned u, w' => ∃ β' O', Rel E β' O' S' a w' ∧ RAV w' (Mof E β' O' S'.σ) (envOf β' S'.σ) r u
      | _, _ => False
def Quiet (y : List AV → St → R (AV × St)) : Prop := ∀ args S r S', (y args S).val = some (r, S') → S' = S ∧ ∀ S2 : St, S2.σ = S.σ → (y args S2).val = some (r, S2)
structure CallsOk (P : Program) (Y : CallsA) : Prop where
  ok : ∀ g args S r S', (Y.run g args S).val = some (r, S') → Enters P g ∧ CallOk P g args S r S'
  quiet : ∀ g, Y.qt g = true → Quiet (Y.run g)
  mixed : P.follows .mixedOrders = true
section
variable {P : Program} {X : Ctx} {Y : CallsA} {f : FuncId} {fn : Func} {E : Ent} {R : Value → World → Prop} {β : Nat → Nat × Nat} {O : Nat → List Nat} {S : St} {a : Act} {w : World}
def W (P : Program) (f : FuncId) (fn : Func) (E : Ent) (R : Value → World → Prop) (k : List Item) (S : St) : Prop :=
  ∀ β O a w, Rel E β O S a w → a.tmps.size = fn.ntmps → At P f R k a w
theorem evalOs_sound (h : Rel E β O S a w) : ∀ {l : List Operand} {vs : List AV}, (evalOs S l).val = some vs → RAVs w (Mof E β O S.σ) (envOf β S.σ) vs (l.map a.eval)
  | [], vs, e => by
    simp only [evalOs, val_ok, Option.some.injEq] at e
    subst e
    exact .nil
  | x :: r, vs, e => by
    simp only [evalOs, val_do] at e
    obtain ⟨v, h1, e⟩ := some_bind e
    obtain ⟨us, h2, e⟩ := some_bind e
    simp only [val_ok, Option.some.injEq] at e
    subst e
    exact .cons (evalO_sound h h1) (evalOs_sound h h2)
theorem capAVs_sound {M : Nat → Prop} {env : EnvT} : ∀ {l : List (Nat × Nat × Nat)} {vs : List Value}, CapsR env l vs → RAVs w M env (capAVs l) vs
  | _, _, .nil => .nil
  | _, _, .cons he hi hr => .cons (.one (.ptr he hi)) (capAVs_sound hr)
theorem put_size (a : Act) (d : Option Tmp) (v : Value) : (a.put d v).tmps.size = a.tmps.size := by
  unfold Act.put
  cases d <;> simp
theorem wantA_sound {ops : Array Oper} {o : Oper} {t : Bool} (h : Rel E β O S a w) (h1 : (wantA ops S o).val = some t) : Region.wanted o (yielded ops a.tmps) = t := by
  unfold wantA at h1
  unfold Region.wanted
  split at h1
  · rename_i hg
    simp only [val_ok, Option.some.injEq] at h1
    subst h1
    rw [hg]
  · rename_i j want hg
    rw [hg]
    rw [val_do] at h1
    obtain ⟨p, hp, h1⟩ := some_bind h1
    rw [val_of] at hp
    rw [val_do] at h1
    obtain ⟨d, hpd, h1⟩ := some_bind h1
    rw [val_of] at hpd
    rw [val_do] at h1
    obtain ⟨v, hv, h1⟩ := some_bind h1
    rw [val_of] at hv
    obtain ⟨hlt, hv'⟩ := h.slots d v hv
    have hy : yielded ops a.tmps j = match a.tmps.getD d undef with | .bool b => some b | _ => none := by
      unfold yielded
      rw [hp, Option.bind_some, hpd, Option.bind_some, Array.getElem?_eq_getElem hlt]
      simp [Array.getD, hlt]
      cases a.tmps[d] <;> rfl
    simp only
    rw [hy]
    split at h1
    · rename_i sv
      have hs := RAV.sc hv'
      rw [hs]
      split at h1
      · rename_i b
        rw [val_ask, val_ok, Option.some.injEq] at h1
        subst h1
        cases b <;> cases want <;> rfl
      · rename_i hu
        simp only [val_ok, Option.some.injEq] at h1
        subst h1
        cases sv <;> first | rfl | exact (hu _ rfl).elim
    · simp only [val_ok, Option.some.injEq] at h1
      subst h1
      generalize a.tmps.getD d undef = u at hv'
      cases hv' with
      | tp => rfl
    · simp [val_stuck] at h1
theorem opA_sound (hX : XOk P X) (hY : CallsOk P Y) {ops : Array Oper} {o : Oper} {i : Nat} {K : Act → World → Prop} {S' : St} {Q : Exit → Act → World → Prop} (ho : ops[i]? = some o) (h : Rel E β O S a w)
    (hd : ∀ t, o.dst = some t → t < a.tmps.size) (e : (opA X real Y ops S o).val = some S') (hr : ∀ β' O' a' w', Rel E β' O' S' a' w' → a'.tmps.size = a.tmps.size → K a' w') :
    wpOp P ops Q i K a w := by
  unfold opA at e
  rw [val_do] at e
  obtain ⟨t, h1, e⟩ := some_bind e
  have hw : Region.wanted o (yielded ops a.tmps) = t := wantA_sound h h1
  unfold wpOp
  simp only [ho]
  cases t with
  | false =>
    rw [if_neg (by rw [hw]; simp)]
    simp only [val_ok, Option.some.injEq] at e
    subst e
    exact hr β O _ w (h.setDst hd (.tp (by exact .nil))) (put_size ..)
  | true =>
    rw [if_pos hw]
    left
    simp only at e
    split at e
    · -- a call
      rename_i c hc
      unfold callA at e
      split at e
      · rename_i fo hcal
        rw [val_do] at e
        obtain ⟨fv, hf, e⟩ := some_bind e
        have hfv := evalO_sound h hf
        split at e
        · rename_i g caps
          rw [val_do] at e
          obtain ⟨args, ha, e⟩ := some_bind e
          rw [val_do] at e
          obtain ⟨⟨r, S1⟩, hy, e⟩ := some_bind e
          simp only [val_ok, Option.some.injEq] at e
          subst e
          obtain ⟨hen, hok⟩ := hY.ok g _ S r S1 hy
          generalize hu : a.eval fo = u at hfv
          cases hfv with
          | one hfv => cases hfv with
            | fn hcaps =>
              rename_i cvs
              have hargs := (evalOs_sound h ha).app (capAVs_sound (w := w) (M := Mof E β O S.σ) hcaps)
              have hoc : o.op = .call c := by
                unfold isCall at hc
                split at hc
                · rename_i c' hop
                  split at hc
                  · simp only [Option.some.injEq] at hc
                    subst hc
                    exact hop
                  · cases hc
                · cases hc
              have hrun : (execOp a.eval o).run P w = .ok (.enter g (c.args.map a.eval ++ cvs)) w := by
                obtain ⟨fn, e1, e2, e3⟩ := hen
                simp only [execOp, hoc, resolve, hcal, hu, Deferred.ofValue, Sem.run_bind, Sem.run_pure, Result.andThen_ok, invoke, callFunc]
                rw [show (program).run P w = .ok P w from rfl, Result.andThen_ok]
                simp only [e1, e2, e3, Bool.false_eq_true, if_false, Sem.run_pure]
                simp
              show o.upon P a _ Q ((execOp a.eval o).run P w)
              rw [hrun, Oper.upon_enter]
              have hc2 := hok E β O a w _ h hargs
              rw [← Array.toList_map, ← Array.toList_append, Array.toArray_toList] at hc2
              refine hc2.mono ?_
              intro e w' he
              cases e with
              | returned u =>
                obtain ⟨β', O', k1, k2⟩ := he
                exact hr β' O' _ w' (k1.setDst hd k2) (put_size ..)
              | panicked => exact he.elim
              | outgrown => exact he.elim
        · simp [val_stuck] at e
      · simp [val_stuck] at e
    · obtain ⟨nx, w', β', O', hrun, hres⟩ := step_sound hX h hd e
      show o.upon P a _ Q ((execOp a.eval o).run P w)
      rw [hrun]
      rcases hres with ⟨u, rfl, hR⟩ | ⟨rfl, hR⟩
      · exact hr β' O' _ w' hR (put_size ..)
      · exact hr β' O' _ w' hR (put_size ..)
theorem goOps_sound (hX : XOk P X) (hY : CallsOk P Y) {ops : Array Oper} {n : Nat} (hd : ∀ (i : Nat) (o : Oper) t, ops[i]? = some o → o.dst = some t → t < n) {Q : Exit → Act → World → Prop} :
    ∀ {l : List Nat} {S S' : St} {β : Nat → Nat × Nat} {O : Nat → List Nat} {a : Act} {w : World}, Rel E β O S a w → a.tmps.size = n → (goOps X real Y ops l S).val = some S' →
    (∀ β' O' a' w', Rel E β' O' S' a' w' → a'.tmps.size = n → Q .normal a' w') → wpOps P ops Q l a w
  | [], S, S', β, O, a, w, h, hn, e, hQ => by
    simp only [goOps, val_ok, Option.some.injEq] at e
    subst e
    exact hQ β O a w h hn
  | i :: l, S, S', β, O, a, w, h, hn, e, hQ => by
    unfold goOps at e
    split at e
    · rename_i ho
      rw [wpOps]
      simp only [ho]
      exact goOps_sound hX hY hd h hn e hQ
    · rename_i o ho
      rw [val_do] at e
      obtain ⟨S1, h1, e⟩ := some_bind e
      rw [wpOps_cons]
      exact opA_sound hX hY ho h (fun t ht => by rw [hn]; exact hd i o t ho ht) h1 (fun β' O' a' w' h' hs => goOps_sound hX hY hd h' (hs.trans hn) e hQ)
end
end Go.Aix
/-
  THE CALCULUS: a drawn region that only reads comes to the same in any order.
-/
namespace Go.Aix
section
variable {P : Program} {X : Ctx} {Y : CallsA} {E : Ent} {β : Nat → Nat × Nat} {O : Nat → List Nat} {S S2 : St} {a : Act} {w : World} {ops : Array Oper}
theorem lk_setDst_self {d : Tmp} {x : AV} : lk d (setDst S (some d) x).T = some x := by simp [setDst, lk_put_self]
theorem lk_setDst_ne {d : Option Tmp} {x : AV} {t : Nat} (h : d ≠ some t) : lk t (setDst S d x).T = lk t S.T := by
  cases d with
  | none => rfl
  | some d =>
    show lk t (put d x S.T) = lk t S.T
    refine lk_put_ne _ ?_ _
    intro e
    exact h (by rw [e])
theorem setDst_σ {d : Option Tmp} {x : AV} : (setDst S d x).σ = S.σ := by cases d <;> rfl
theorem setDst_next {d : Option Tmp} {x : AV} : (setDst S d x).next = S.next := by cases d <;> rfl
theorem evalO_congr {x : Operand} (h : ∀ t, x = .tmp t → lk t S2.T = lk t S.T) : evalO S2 x = evalO S x := by
  cases x with
  | tmp t =>
    show R.of (lk t S2.T) = R.of (lk t S.T)
    rw [h t rfl]
  | _ => rfl
theorem evalOs_congr : ∀ {l : List Operand}, (∀ x ∈ l, evalO S2 x = evalO S x) → evalOs S2 l = evalOs S l
  | [], _ => rfl
  | x :: l, h => by
    unfold evalOs
    rw [h x List.mem_cons_self, evalOs_congr (fun y hy => h y (List.mem_cons_of_mem _ hy))]
theorem loadA_congr (hσ : S2.σ = S.σ) (y : TyI) (v : AV) : loadA real S2 y v = loadA real S y v := by unfold loadA; rw [hσ]
theorem rowSz_congr (hσ : S2.σ = S.σ) (c sz : Nat) : rowSz S2 c sz = rowSz S c sz := by unfold rowSz; rw [hσ]
theorem indexAddrA_congr (hσ : S2.σ = S.σ) (y : TyI) (x : AV) (i : Int) : indexAddrA real S2 y x i = indexAddrA real S y x i := by
  unfold indexAddrA
  simp only [rowSz_congr hσ]
def Local (f : St → R St) (S : St) (d : Option Tmp) (S' : St) (ev : St → Prop) : Prop :=
  ∃ v, S' = setDst S d v ∧ ∀ S2 : St, S2.σ = S.σ → ev S2 → (f S2).val = some (setDst S2 d v)
theorem stepOp_local {o : Oper} {pos : Bool} {S' : St} (hr : readerOp Y o = true) (hc : isCall o = none) (e : (stepOp X real pos S o).val = some S') :
    Local (fun S => stepOp X real pos S o) S o.dst S' (fun S2 => ∀ x ∈ o.op.operands.toList, evalO S2 x = evalO S x) := by
  unfold stepOp at e
  split at e
  · rename_i x ho
    rw [val_do] at e
    obtain ⟨v, h1, e⟩ := some_bind e
    refine ⟨v, (Option.some.inj e).symm, fun S2 hσ ev => ?_⟩
    simp only [ho, Op.operands, List.mem_cons, List.not_mem_nil, or_false, forall_eq] at ev
    unfold stepOp
    simp only [ho, val_do, ev, h1, Option.bind_some, val_ok]
  · rename_i x ho
    rw [val_do] at e
    obtain ⟨v, h1, e⟩ := some_bind e
    refine ⟨v, (Option.some.inj e).symm, fun S2 hσ ev => ?_⟩
    simp only [ho, Op.operands, List.mem_cons, List.not_mem_nil, or_false, forall_eq] at ev
    unfold stepOp
    simp only [ho, val_do, ev, h1, Option.bind_some, val_ok]
  · rename_i c x y ho
    rw [val_do] at e
    obtain ⟨t, h1, e⟩ := some_bind e
    split at e
    · rename_i b
      rw [val_ask] at e
      have ev' : ∀ S2 : St, (∀ x ∈ o.op.operands.toList, evalO S2 x = evalO S x) → evalO S2 c = evalO S c ∧ evalO S2 x = evalO S x ∧ evalO S2 y = evalO S y := by
        intro S2 ev
        simp only [ho, Op.operands, List.mem_cons, List.not_mem_nil, or_false] at ev
        exact ⟨ev c (.inl rfl), ev x (.inr (.inl rfl)), ev y (.inr (.inr rfl))⟩
      cases b with
      | true =>
        simp only at e
        rw [val_do] at e
        obtain ⟨v, h2, e⟩ := some_bind e
        refine ⟨v, (Option.some.inj e).symm, fun S2 hσ ev => ?_⟩
        obtain ⟨e1, e2, e3⟩ := ev' S2 ev
        unfold stepOp
        simp only [ho, val_do, e1, h1, e2, h2, Option.bind_some, val_ok, val_ask]
      | false =>
        simp only at e
        rw [val_do] at e
        obtain ⟨v, h2, e⟩ := some_bind e
        refine ⟨v, (Option.some.inj e).symm, fun S2 hσ ev => ?_⟩
        obtain ⟨e1, e2, e3⟩ := ev' S2 ev
        unfold stepOp
        simp only [ho, val_do, e1, h1, e3, h2, Option.bind_some, val_ok, val_ask]
    · simp [val_stuck] at e
  · rename_i ho; simp [readerOp, ho] at hr
  · rename_i ho; simp [readerOp, ho] at hr
  · rename_i ho; simp [readerOp, ho] at hr
  · rename_i ho; simp [readerOp, ho] at hr
  · rename_i t x ho
    rw [val_do] at e
    obtain ⟨y, hy, e⟩ := some_bind e
    rw [val_do] at e
    obtain ⟨a, h1, e⟩ := some_bind e
    rw [val_do] at e
    obtain ⟨v, h2, e⟩ := some_bind e
    refine ⟨v, (Option.some.inj e).symm, fun S2 hσ ev => ?_⟩
    simp only [ho, Op.operands, List.mem_cons, List.not_mem_nil, or_false, forall_eq] at ev
    unfold stepOp
    simp only [ho, val_do, hy, ev, h1, loadA_congr hσ, h2, Option.bind_some, val_ok]
  · rename_i ho; simp [readerOp, ho] at hr
  · rename_i x ho
    rw [val_do] at e
    obtain ⟨v, h1, e⟩ := some_bind e
    split at e
    · refine ⟨_, (Option.some.inj e).symm, fun S2 hσ ev => ?_⟩
      simp only [ho, Op.operands, List.mem_cons, List.not_mem_nil, or_false, forall_eq] at ev
      unfold stepOp
      simp only [ho, val_do, ev, h1, Option.bind_some, val_ok]
    · refine ⟨_, (Option.some.inj e).symm, fun S2 hσ ev => ?_⟩
      simp only [ho, Op.operands, List.mem_cons, List.not_mem_nil, or_false, forall_eq] at ev
      unfold stepOp
      simp only [ho, val_do, ev, h1, Option.bind_some, val_ok]
    · simp [val_stuck] at e
  · rename_i op t x y q ho
    rw [val_do] at e
    obtain ⟨u, h1, e⟩ := some_bind e
    rw [val_do] at e
    obtain ⟨v, h2, e⟩ := some_bind e
    split at e
    · split at e
      · rw [val_do] at e
        obtain ⟨z, h3, e⟩ := some_bind e
        refine ⟨_, (Option.some.inj e).symm, fun S2 hσ ev => ?_⟩
        simp only [ho, Op.operands, List.mem_cons, List.not_mem_nil, or_false] at ev
        have e1 := ev x (.inl rfl)
        have e2 := ev y (.inr rfl)
        unfold stepOp
        simp only [ho, val_do, e1, h1, e2, h2, h3, Option.bind_some, val_ok]
      · simp [val_stuck] at e
    · simp [val_stuck] at e
  · rename_i op t x ho
    rw [val_do] at e
    obtain ⟨u, h1, e⟩ := some_bind e
    split at e
    · rw [val_do] at e
      obtain ⟨z, h3, e⟩ := some_bind e
      refine ⟨_, (Option.some.inj e).symm, fun S2 hσ ev => ?_⟩
      simp only [ho, Op.operands, List.mem_cons, List.not_mem_nil, or_false, forall_eq] at ev
      unfold stepOp
      simp only [ho, val_do, ev, h1, h3, Option.bind_some, val_ok]
    · simp [val_stuck] at e
  · rename_i s t x ho
    rw [val_do] at e
    obtain ⟨y0, hy0, e⟩ := some_bind e
    rw [val_do] at e
    obtain ⟨y, hy, e⟩ := some_bind e
    rw [val_do] at e
    obtain ⟨u, h1, e⟩ := some_bind e
    split at e
    · rename_i k hk
      split at e
      · refine ⟨_, (Option.some.inj e).symm, fun S2 hσ ev => ?_⟩
        simp only [ho, Op.operands, List.mem_cons, List.not_mem_nil, or_false, forall_eq] at ev
        unfold stepOp
        simp only [ho, val_do, hy0, hy, ev, h1, hk, Option.bind_some, val_ok]
      · simp [val_stuck] at e
    · simp [val_stuck] at e
  · rename_i ho; simp [readerOp, ho] at hr
  · rename_i ho; simp [readerOp, ho] at hr
  · rename_i ho; simp [readerOp, ho] at hr
  · rename_i t x f ho
    rw [val_do] at e
    obtain ⟨⟨off, sz, g⟩, hf, e⟩ := some_bind e
    rw [val_do] at e
    obtain ⟨u, h1, e⟩ := some_bind e
    rw [val_do] at e
    obtain ⟨v, h2, e⟩ := some_bind e
    refine ⟨_, (Option.some.inj e).symm, fun S2 hσ ev => ?_⟩
    simp only [ho, Op.operands, List.mem_cons, List.not_mem_nil, or_false, forall_eq] at ev
    unfold stepOp
    simp only [ho, val_do, hf, ev, h1, h2, Option.bind_some, val_ok]
  · rename_i t x f ho
    rw [val_do] at e
    obtain ⟨⟨off, sz, g⟩, hf, e⟩ := some_bind e
    rw [val_do] at e
    obtain ⟨u, h1, e⟩ := some_bind e
    split at e
    · rename_i cs
      split at e
      · rename_i hb
        rw [val_do] at e
        obtain ⟨v, h2, e⟩ := some_bind e
        refine ⟨_, (Option.some.inj e).symm, fun S2 hσ ev => ?_⟩
        simp only [ho, Op.operands, List.mem_cons, List.not_mem_nil, or_false, forall_eq] at ev
        unfold stepOp
        simp only [ho, val_do, hf, ev, h1, hb, h2, Option.bind_some, val_ok]
      · simp [val_stuck] at e
    · simp [val_stuck] at e
  · rename_i t x i ho
    rw [val_do] at e
    obtain ⟨y, hy, e⟩ := some_bind e
    rw [val_do] at e
    obtain ⟨av, h1, e⟩ := some_bind e
    rw [val_do] at e
    obtain ⟨iv, h2, e⟩ := some_bind e
    rw [val_do] at e
    obtain ⟨n, h3, e⟩ := some_bind e
    rw [val_do] at e
    obtain ⟨v, h4, e⟩ := some_bind e
    refine ⟨_, (Option.some.inj e).symm, fun S2 hσ ev => ?_⟩
    simp only [ho, Op.operands, List.mem_cons, List.not_mem_nil, or_false] at ev
    have e1 := ev x (.inl rfl)
    have e2 := ev i (.inr rfl)
    unfold stepOp
    simp only [ho, val_do, hy, e1, h1, e2, h2, h3, indexAddrA_congr hσ, h4, Option.bind_some, val_ok]
  · rename_i t x i ho
    rw [val_do] at e
    obtain ⟨y, hy, e⟩ := some_bind e
    rw [val_do] at e
    obtain ⟨av, h1, e⟩ := some_bind e
    rw [val_do] at e
    obtain ⟨iv, h2, e⟩ := some_bind e
    rw [val_do] at e
    obtain ⟨n, h3, e⟩ := some_bind e
    split at e
    · rename_i hu
      split at e
      · rename_i s hs
        rw [val_demand] at e
        split at e
        · rename_i hd
          refine ⟨_, (Option.some.inj e).symm, fun S2 hσ ev => ?_⟩
          simp only [ho, Op.operands, List.mem_cons, List.not_mem_nil, or_false] at ev
          have e1 := ev x (.inl rfl)
          have e2 := ev i (.inr rfl)
          unfold stepOp
          simp only [ho, val_do, hy, e1, h1, e2, h2, h3, hu, Option.bind_some, val_ok, hd, show (demand true).val = some () from rfl]
        · cases e
      · simp [val_stuck] at e
    · simp [val_stuck] at e
  · rename_i x i ho
    rw [val_do] at e
    obtain ⟨av, h1, e⟩ := some_bind e
    split at e
    · rename_i vs
      split at e
      · rename_i g cs hg
        rw [val_do] at e
        obtain ⟨v, h2, e⟩ := some_bind e
        refine ⟨_, (Option.some.inj e).symm, fun S2 hσ ev => ?_⟩
        simp only [ho, Op.operands, List.mem_cons, List.not_mem_nil, or_false, forall_eq] at ev
        unfold stepOp
        simp only [ho, val_do, ev, h1, hg, h2, Option.bind_some, val_ok]
      · simp [val_stuck] at e
    · simp [val_stuck] at e
  · rename_i c ho
    split at e
    · rename_i b hb
      unfold builtinA at e
      have hops : ∀ S2 : St, (∀ x ∈ o.op.operands.toList, evalO S2 x = evalO S x) → ∀ x ∈ c.args.toList, evalO S2 x = evalO S x := by
        intro S2 ev x hx
        refine ev x ?_
        simp [ho, Op.operands, Call.operands, hb] at hx ⊢
        exact hx
      split at e
      · split at e
        · rename_i x ha
          split at e
          · rename_i t ht
            rw [val_do] at e
            obtain ⟨y, hy, e⟩ := some_bind e
            rw [val_do] at e
            obtain ⟨v, h1, e⟩ := some_bind e
            rw [val_do] at e
            obtain ⟨n, h2, e⟩ := some_bind e
            refine ⟨_, (Option.some.inj e).symm, fun S2 hσ ev => ?_⟩
            have e1 := hops S2 ev x (by rw [ha]; exact List.mem_cons_self)
            unfold stepOp
            simp only [ho, hb, builtinA, ha, ht, val_do, hy, e1, h1, h2, Option.bind_some, val_ok]
          · simp [val_stuck] at e
        · simp [val_stuck] at e
      · simp [readerOp, ho, hb] at hr
      · split at e
        · rename_i x y ha
          rw [val_do] at e
          obtain ⟨u, h1, e⟩ := some_bind e
          rw [val_do] at e
          obtain ⟨v, h2, e⟩ := some_bind e
          split at e
          · split at e
            · refine ⟨_, (Option.some.inj e).symm, fun S2 hσ ev => ?_⟩
              have e1 := hops S2 ev x (by rw [ha]; exact List.mem_cons_self)
              have e2 := hops S2 ev y (by rw [ha]; exact List.mem_cons_of_mem _ List.mem_cons_self)
              unfold stepOp
              simp only [ho, hb, builtinA, ha, val_do, e1, h1, e2, h2, Option.bind_some, val_ok]
            · simp [val_stuck] at e
          · simp [val_stuck] at e
        · simp [val_stuck] at e
      · split at e
        · rename_i x y ha
          rw [val_do] at e
          obtain ⟨u, h1, e⟩ := some_bind e
          rw [val_do] at e
          obtain ⟨v, h2, e⟩ := some_bind e
          split at e
          · split at e
            · refine ⟨_, (Option.some.inj e).symm, fun S2 hσ ev => ?_⟩
              have e1 := hops S2 ev x (by rw [ha]; exact List.mem_cons_self)
              have e2 := hops S2 ev y (by rw [ha]; exact List.mem_cons_of_mem _ List.mem_cons_self)
              unfold stepOp
              simp only [ho, hb, builtinA, ha, val_do, e1, h1, e2, h2, Option.bind_some, val_ok]
            · simp [val_stuck] at e
          · simp [val_stuck] at e
        · simp [val_stuck] at e
      · simp [val_stuck] at e
    · simp [val_stuck] at e
  · simp [val_stuck] at e
theorem wantA_congr {o : Oper} (h : ∀ t ∈ o.looksAt ops, lk t S2.T = lk t S.T) : wantA ops S2 o = wantA ops S o := by
  unfold wantA
  split
  · rfl
  · rename_i j want hg
    unfold Oper.looksAt at h
    rw [hg] at h
    cases hp : ops[j]? with
    | none => rfl
    | some p =>
      simp only [hp, Option.bind_some] at h
      show (R.of p.dst >>= fun t => (R.of (lk t S2.T) >>= fun v => _)) = (R.of p.dst >>= fun t => (R.of (lk t S.T) >>= fun v => _))
      cases hd : p.dst with
      | none => rfl
      | some t =>
        simp only [hd] at h
        have := h t (by simp)
        show (R.of (lk t S2.T) >>= _) = (R.of (lk t S.T) >>= _)
        rw [this]
theorem opA_local (hY : CallsOk P Y) {o : Oper} {S' : St} (hr : readerOp Y o = true) (e : (opA X real Y ops S o).val = some S') :
    Local (fun S => opA X real Y ops S o) S o.dst S' (fun S2 => ∀ t ∈ o.looksAt ops, lk t S2.T = lk t S.T) := by
  have evs : ∀ S2 : St, (∀ t ∈ o.looksAt ops, lk t S2.T = lk t S.T) → ∀ x ∈ o.op.operands.toList, evalO S2 x = evalO S x := by
    intro S2 h x hx
    refine evalO_congr fun t ht => h t ?_
    subst ht
    unfold Oper.looksAt
    exact List.mem_append_left _ (List.mem_filterMap.2 ⟨_, hx, rfl⟩)
  unfold opA at e
  rw [val_do] at e
  obtain ⟨t, h1, e⟩ := some_bind e
  cases t with
  | false =>
    refine ⟨_, (Option.some.inj e).symm, fun S2 hσ ev => ?_⟩
    unfold opA
    simp only [val_do, wantA_congr ev, h1, Option.bind_some, val_ok]
  | true =>
    simp only at e
    cases hc : isCall o with
    | none =>
      rw [hc] at e
      obtain ⟨v, h2, h3⟩ := stepOp_local hr hc e
      refine ⟨v, h2, fun S2 hσ ev => ?_⟩
      unfold opA
      simp only [val_do, wantA_congr ev, h1, Option.bind_some, hc]
      exact h3 S2 hσ (evs S2 ev)
    | some c =>
      rw [hc] at e
      have hoc : o.op = .call c := by
        unfold isCall at hc
        split at hc
        · rename_i c' hop
          split at hc
          · simp only [Option.some.injEq] at hc
            subst hc
            exact hop
          · cases hc
        · cases hc
      have e : (callA Y S o c).val = some S' := e
      unfold callA at e
      split at e
      · rename_i fo hcal
        have hr' := hr
        unfold readerOp at hr'
        simp only [hoc, hcal] at hr'
        split at hr'
        · rename_i g
          simp only [evalO, val_do, val_ok, Option.bind_some, capAVs] at e
          obtain ⟨args, ha, e⟩ := some_bind e
          obtain ⟨⟨r, S1⟩, hy, e⟩ := some_bind e
          obtain ⟨q1, q2⟩ := hY.quiet g hr' _ _ _ _ hy
          subst q1
          rw [hy] at e
          refine ⟨r, (Option.some.inj e).symm, fun S2 hσ ev => ?_⟩
          have ea : evalOs S2 c.args.toList = evalOs S1 c.args.toList := evalOs_congr fun x hx => evs S2 ev x (by
            simp [hoc, Op.operands, Call.operands, hcal] at hx ⊢
            exact .inr hx)
          unfold opA
          simp only [val_do, wantA_congr ev, h1, Option.bind_some, hc, callA, hcal, evalO, val_ok, ea, ha, capAVs, q2 S2 hσ]
        · cases hr'
      · simp [val_stuck] at e
theorem goOps_seq {n : Nat} (hn : n = ops.size) : ∀ (k i : Nat) (S S' : St), i + k = n → (goOps X real Y ops (List.range' i k) S).val = some S' →
    ∃ st : Nat → St, st i = S ∧ st n = S' ∧ ∀ j, i ≤ j → j < n → ∃ o, ops[j]? = some o ∧ (opA X real Y ops (st j) o).val = some (st (j + 1))
  | 0, i, S, S', h, e => by
    simp only [List.range'_zero, goOps, val_ok, Option.some.injEq] at e
    subst e
    exact ⟨fun _ => S, rfl, rfl, fun j h1 h2 => by omega⟩
  | k + 1, i, S, S', h, e => by
    rw [List.range'_succ] at e
    unfold goOps at e
    have hlt : i < ops.size := by omega
    rw [Array.getElem?_eq_getElem hlt] at e
    simp only at e
    rw [val_do] at e
    obtain ⟨S1, h1, e⟩ := some_bind e
    obtain ⟨st, s1, s2, s3⟩ := goOps_seq hn k (i + 1) S1 S' (by omega) e
    refine ⟨fun j => if j = i then S else st j, by simp, by show (if n = i then S else st n) = S'; rw [if_neg (by omega)]; exact s2, fun j hj hj2 => ?_⟩
    by_cases hji : j = i
    · subst hji
      refine ⟨_, Array.getElem?_eq_getElem hlt, ?_⟩
      show (opA X real Y ops (if j = j then S else st j) ops[j]).val = some (if j + 1 = j then S else st (j + 1))
      rw [if_pos rfl, if_neg (by omega), s1]
      exact h1
    · obtain ⟨o, h2, h3⟩ := s3 j (by omega) hj2
      refine ⟨o, h2, ?_⟩
      show (opA X real Y ops (if j = i then S else st j) o).val = some (if j + 1 = i then S else st (j + 1))
      rw [if_neg hji, if_neg (by omega)]
      exact h3
structure Done (ops : Array Oper) (V : Nat → AV) (S : St) (L : Nat → Prop) (S' : St) : Prop where
  σ : S'.σ = S.σ
  next : S'.next = S.next
  at_ : ∀ (i : Nat) (o : Oper) (t : Nat), ops[i]? = some o → L i → o.dst = some t → lk t S'.T = some (V i)
  old : ∀ t, (∀ (i : Nat) (o : Oper), ops[i]? = some o → o.dst ≠ some t) → lk t S'.T = lk t S.T
theorem Rel.same {S' : St} (h : Rel E β O S a w) (hσ : S'.σ = S.σ) (hn : S'.next = S.next) (ht : ∀ t, lk t S'.T = lk t S.T) : Rel E β O S' a w := by
  obtain ⟨T, σ, n⟩ := S
  obtain ⟨T', σ', n'⟩ := S'
  dsimp only at hσ hn ht
  subst hσ hn
  exact ⟨h.mem, fun t av e => h.slots t av (by rw [← ht]; exact e), h.nodef⟩
theorem quiet_spec (hq : quietR Y ops = true) {i : Nat} {o : Oper} (ho : ops[i]? = some o) : readerOp Y o = true ∧ (∀ e ∈ o.after, Region.binds .any e = true → e.on < i) ∧
    ∀ j q t, ops[j]? = some q → q.dst = some t → (i ≠ j → o.dst ≠ some t) ∧ (t ∈ o.looksAt ops → ∃ e ∈ o.after, Region.binds .any e = true ∧ e.on = j) := by
  unfold quietR at hq
  rw [List.all_eq_true] at hq
  have hlt : i < ops.size := (Array.getElem?_eq_some_iff.1 ho).1
  have h := hq i (List.mem_range.2 hlt)
  simp only [ho, Bool.and_eq_true] at h
  obtain ⟨⟨h1, h2⟩, h3⟩ := h
  refine ⟨h1, ?_, ?_⟩
  · intro e he hb
    rw [Array.all_eq_true_iff_forall_mem] at h2
    have := h2 e he
    simp only [hb, Bool.not_true, Bool.false_or] at this
    simpa using this
  · intro j q t hj ht
    rw [List.all_eq_true] at h3
    have hlt2 : j < ops.size := (Array.getElem?_eq_some_iff.1 hj).1
    have h4 := h3 j (List.mem_range.2 hlt2)
    unfold quietOne at h4
    simp only [hj, ht, Bool.and_eq_true] at h4
    obtain ⟨h5, h6⟩ := h4
    refine ⟨fun hne hd => ?_, fun hl => ?_⟩
    · rw [Bool.or_eq_true] at h5
      rcases h5 with h5 | h5
      · exact hne (beq_eq h5)
      · simp [hd] at h5
    · rw [Bool.or_eq_true] at h6
      rcases h6 with h6 | h6
      · simp [hl] at h6
      · obtain ⟨e, he, hb⟩ := Array.any_eq_true'.1 h6
        rw [Bool.and_eq_true] at hb
        exact ⟨e, he, hb.1, beq_eq hb.2⟩
theorem quiet_sound (hX : XOk P X) (hY : CallsOk P Y) (hq : quietR Y ops = true) {n0 : Nat} (hd : ∀ (i : Nat) (o : Oper) t, ops[i]? = some o → o.dst = some t → t < n0) {Q : Exit → Act → World → Prop} {Sn : St}
    (hr : Rel E β O S a w) (hs : a.tmps.size = n0) (e : (goOps X real Y ops (List.range ops.size) S).val = some Sn)
    (hQ : ∀ β' O' a' w', Rel E β' O' Sn a' w' → a'.tmps.size = n0 → Q .normal a' w') : wpAny P .any ops Q ops.size (Array.replicate ops.size false) a w := by
  rw [List.range_eq_range'] at e
  obtain ⟨st, s1, s2, s3⟩ := goOps_seq rfl ops.size 0 S Sn (by omega) e
  have hloc : ∀ (j : Nat) (o : Oper), ops[j]? = some o → Local (fun S => opA X real Y ops S o) (st j) o.dst (st (j + 1)) (fun S2 => ∀ t ∈ o.looksAt ops, lk t S2.T = lk t (st j).T) := by
    intro j o ho
    have hlt : j < ops.size := (Array.getElem?_eq_some_iff.1 ho).1
    obtain ⟨o', h1, h2⟩ := s3 j (Nat.zero_le _) hlt
    rw [ho] at h1
    obtain rfl := Option.some.inj h1
    exact opA_local hY (quiet_spec hq ho).1 h2
  obtain ⟨V, hV⟩ : ∃ V : Nat → AV, ∀ (j : Nat) (o : Oper), ops[j]? = some o → st (j + 1) = setDst (st j) o.dst (V j) ∧ ∀ S2 : St, S2.σ = (st j).σ → (∀ t ∈ o.looksAt ops, lk t S2.T = lk t (st j).T) → (opA X real Y ops S2 o).val = some (setDst S2 o.dst (V j)) := by
    have : ∀ j : Nat, ∃ v, ∀ o : Oper, ops[j]? = some o → st (j + 1) = setDst (st j) o.dst v ∧ ∀ S2 : St, S2.σ = (st j).σ → (∀ t ∈ o.looksAt ops, lk t S2.T = lk t (st j).T) → (opA X real Y ops S2 o).val = some (setDst S2 o.dst v) := by
      intro j
      cases ho : ops[j]? with
      | none => exact ⟨.tp [], fun o h => by cases h⟩
      | some o =>
        obtain ⟨v, h1, h2⟩ := hloc j o ho
        exact ⟨v, fun o' h => by cases h; exact ⟨h1, h2⟩⟩
    exact ⟨fun j => Classical.choose (this j), fun j => Classical.choose_spec (this j)⟩
  have step : ∀ {L : Nat → Prop} {S' : St} {j : Nat} {o : Oper}, ops[j]? = some o → Done ops V S L S' → Done ops V S (fun i => i = j ∨ L i) (setDst S' o.dst (V j)) := by
    intro L S' j o ho h
    refine ⟨by rw [setDst_σ, h.σ], by rw [setDst_next, h.next], ?_, ?_⟩
    · intro i q t hi hL ht
      by_cases hij : j = i
      · subst hij
        rw [ho] at hi
        obtain rfl := Option.some.inj hi
        rw [ht]
        exact lk_setDst_self
      · rw [lk_setDst_ne (((quiet_spec hq ho).2.2 i q t hi ht).1 hij)]
        exact h.at_ i q t hi (hL.resolve_left (fun e => hij e.symm)) ht
    · intro t h'
      rw [lk_setDst_ne (h' j o ho)]
      exact h.old t h'
  have seq : ∀ j, j ≤ ops.size → Done ops V S (fun i => i < j) (st j) := by
    intro j
    induction j with
    | zero => intro _; rw [s1]; exact ⟨rfl, rfl, fun i o t _ h => by omega, fun _ _ => rfl⟩
    | succ j ih =>
      intro hj
      have ho : ops[j]? = some ops[j] := Array.getElem?_eq_getElem (by omega)
      have h1 := step ho (ih (by omega))
      rw [(hV j _ ho).1]
      exact ⟨h1.σ, h1.next, fun i o t hi hl ht => h1.at_ i o t hi (by omega) ht, h1.old⟩
  have main : ∀ (fuel : Nat) (listed : Array Bool) (todo : List Nat) (S' : St) (β : Nat → Nat × Nat) (O : Nat → List Nat) (a : Act) (w : World), listed.size = ops.size → todo.length ≤ fuel → (∀ i, i < ops.size → listed.getD i false = false → i ∈ todo) →
      Done ops V S (fun i => listed.getD i false = true) S' → Rel E β O S' a w → a.tmps.size = n0 → wpAny P .any ops Q fuel listed a w := by
    intro fuel
    induction fuel with
    | zero =>
      intro listed todo S' β O a w hls htl hto hD hr hs
      have htl : todo = [] := List.length_eq_zero_iff.1 (by omega)
      subst htl
      have hall : ∀ i, i < ops.size → listed.getD i false = true := fun i hi => by
        cases hb : listed.getD i false with
        | true => rfl
        | false => exact absurd (hto i hi hb) (by simp)
      refine wpAny_done ?_ ?_ 0
      · refine List.eq_nil_iff_forall_not_mem.2 fun i hi => ?_
        obtain ⟨h0, o, ho, _⟩ := mem_ready.1 hi
        have hlt : i < ops.size := (Array.getElem?_eq_some_iff.1 ho).1
        have h1 := hall i hlt
        simp [show i < listed.size from by omega] at h0 h1
        rw [h1] at h0; cases h0
      · refine hQ β O a w (hr.same ?_ ?_ ?_) hs
        · rw [← s2, (seq ops.size (Nat.le_refl _)).σ, hD.σ]
        · rw [← s2, (seq ops.size (Nat.le_refl _)).next, hD.next]
        · intro t
          have hS := seq ops.size (Nat.le_refl _)
          rw [← s2]
          by_cases ht : ∃ (i : Nat) (o : Oper), ops[i]? = some o ∧ o.dst = some t
          · obtain ⟨i, o, ho, ht⟩ := ht
            have hlt : i < ops.size := (Array.getElem?_eq_some_iff.1 ho).1
            rw [hS.at_ i o t ho hlt ht, hD.at_ i o t ho (hall i hlt) ht]
          · have ht' : ∀ (i : Nat) (o : Oper), ops[i]? = some o → o.dst ≠ some t := fun i o ho h => ht ⟨i, o, ho, h⟩
            rw [hS.old t ht', hD.old t ht']
    | succ fuel ih =>
      intro listed todo S' β O a w hls htl hto hD hr hs
      by_cases hrd : Region.ready .any ops listed = []
      · have hall : ∀ i, i < ops.size → listed.getD i false = true := by
          intro i
          induction i using Nat.strongRecOn with
          | _ i ihi =>
            intro hi
            cases hb : listed.getD i false with
            | true => rfl
            | false =>
              exfalso
              have ho : ops[i]? = some ops[i] := Array.getElem?_eq_getElem hi
              have : i ∈ Region.ready .any ops listed := mem_ready.2 ⟨by simp [show i < listed.size from by omega] at hb ⊢; exact hb, _, ho, fun e he hbd => by
                have h1 := (quiet_spec hq ho).2.1 e he hbd
                exact ihi e.on h1 (by omega)⟩
              rw [hrd] at this
              simp at this
        refine wpAny_done hrd ?_ _
        refine hQ β O a w (hr.same ?_ ?_ ?_) hs
        · rw [← s2, (seq ops.size (Nat.le_refl _)).σ, hD.σ]
        · rw [← s2, (seq ops.size (Nat.le_refl _)).next, hD.next]
        · intro t
          have hS := seq ops.size (Nat.le_refl _)
          rw [← s2]
          by_cases ht : ∃ (i : Nat) (o : Oper), ops[i]? = some o ∧ o.dst = some t
          · obtain ⟨i, o, ho, ht⟩ := ht
            have hlt : i < ops.size := (Array.getElem?_eq_some_iff.1 ho).1
            rw [hS.at_ i o t ho hlt ht, hD.at_ i o t ho (hall i hlt) ht]
          · have ht' : ∀ (i : Nat) (o : Oper), ops[i]? = some o → o.dst ≠ some t := fun i o ho h => ht ⟨i, o, ho, h⟩
            rw [hS.old t ht', hD.old t ht']
      · refine wpAny_all rfl hrd fun j hj => ?_
        obtain ⟨h0, o, ho, hall⟩ := mem_ready.1 hj
        have hlt : j < ops.size := (Array.getElem?_eq_some_iff.1 ho).1
        have hun : listed.getD j false = false := by simp [show j < listed.size from by omega] at h0 ⊢; exact h0
        have hst := seq j (by omega)
        have hop : (opA X real Y ops S' o).val = some (setDst S' o.dst (V j)) := by
          refine (hV j o ho).2 S' (by rw [hD.σ, hst.σ]) fun t ht => ?_
          by_cases hx : ∃ (i : Nat) (q : Oper), ops[i]? = some q ∧ q.dst = some t
          · obtain ⟨i, q, hi, hqt⟩ := hx
            obtain ⟨ed, he, hb, hon⟩ := ((quiet_spec hq ho).2.2 i q t hi hqt).2 ht
            have hij := (quiet_spec hq ho).2.1 ed he hb
            rw [hst.at_ i q t hi (by omega) hqt, hD.at_ i q t hi (by rw [← hon]; exact hall ed he hb) hqt]
          · have ht' : ∀ (i : Nat) (o : Oper), ops[i]? = some o → o.dst ≠ some t := fun i o ho h => hx ⟨i, o, ho, h⟩
            rw [hst.old t ht', hD.old t ht']
        refine opA_sound hX hY ho hr (fun t ht => by rw [hs]; exact hd j o t ho ht) hop fun β' O' a' w' hr' hs' => ?_
        refine ih (listed.setIfInBounds j true) (todo.erase j) _ β' O' a' w' (by simp [hls]) ?_ ?_ ?_ hr' (hs'.trans hs)
        · rw [List.length_erase_of_mem (hto j hlt hun)]; omega
        · intro i hi hl
          by_cases hij : j = i
          · subst hij
            simp [show j < listed.size from by omega] at hl
          · rw [getD_set_ne false hij] at hl
            exact (List.mem_erase_of_ne (fun e => hij e.symm)).2 (hto i hi hl)
        · have h1 := step ho hD
          refine ⟨h1.σ, h1.next, fun i q t hi hl ht => h1.at_ i q t hi ?_ ht, h1.old⟩
          by_cases hij : j = i
          · exact .inl hij.symm
          · rw [getD_set_ne false hij] at hl
            exact .inr hl
  refine main ops.size _ (List.range ops.size) S β O a w (by simp) (by simp) (fun i hi _ => List.mem_range.2 hi) ⟨rfl, rfl, fun i o t ho hl => ?_, fun _ _ => rfl⟩ hr hs
  have hlt : i < ops.size := (Array.getElem?_eq_some_iff.1 ho).1
  simp [hlt] at hl
end
end Go.Aix
