/-
  THE CALCULUS, TWENTY-SEVENTH TEXT: what a law is handed, read as values.
-/
import Derived.Test.YtafdnkachndacaaAixAny3
import GoSem.ClaimChange
set_option linter.unusedSimpArgs false
set_option linter.unusedVariables false
namespace Go.Aix

/-- What shape a type's values have. -/
inductive Sh where
  | int (k : IntKind)
  | bool
  | str
  | slice (e : Sh)
  | struct (fs : List Sh)
  deriving Inhabited
mutual
def Sh.size : Sh → Nat
  | .int _ => 1
  | .bool => 1
  | .str => 1
  | .slice _ => 1
  | .struct fs => Sh.sizes fs
def Sh.sizes : List Sh → Nat
  | [] => 0
  | s :: r => s.size + Sh.sizes r
end
mutual
/-- Has the type this shape? -/
def Sh.ok (P : Program) : Sh → TypeId → Bool
  | .int k, t => match P.underlying t with
    | some (.int k') => decide (k = k') && Nat.beq (P.cellsOf t) 1
    | _ => false
  | .bool, t => match P.underlying t with
    | some .bool => Nat.beq (P.cellsOf t) 1
    | _ => false
  | .str, t => match P.underlying t with
    | some .string => Nat.beq (P.cellsOf t) 1
    | _ => false
  | .slice e, t => match P.underlying t with
    | some (.slice u) => Sh.ok P e u && Nat.beq (P.cellsOf t) 1 && Nat.blt 0 (P.cellsOf u)
    | _ => false
  | .struct fs, t => match P.underlying t with
    | some (.struct gs) => Sh.oks P fs 0 gs.toList && Nat.beq (P.cellsOf t) (Sh.sizes fs)
    | _ => false
def Sh.oks (P : Program) : List Sh → Nat → List Field → Bool
  | [], _, gs => gs.isEmpty
  | s :: r, off, gs => match gs with
    | [] => false
    | g :: gs => Nat.beq g.offset off && Sh.ok P s g.type && Sh.oks P r (off + s.size) gs
end
mutual
/-- Are these cells of that shape? -/
def Sh.has : Sh → List PV → Bool
  | .int k, ps => match ps with
    | [.sc (.int k' n)] => decide (k' = k) && (Lit.int k n).wf
    | _ => false
  | .bool, ps => match ps with
    | [.sc (.bool _)] => true
    | _ => false
  | .str, ps => match ps with
    | [.sc (.string s)] => Nat.ble s.size maxLen
    | _ => false
  | .slice e, ps => match ps with
    | [.sl false sz es] => Nat.beq sz e.size && es.all (fun x => e.has x) && Nat.ble es.length maxLen
    | _ => false
  | .struct fs, ps => Sh.hass fs ps
def Sh.hass : List Sh → List PV → Bool
  | [], ps => ps.isEmpty
  | s :: r, ps => s.has (ps.take s.size) && Sh.hass r (ps.drop s.size)
end

section
variable {P : Program} {w : World} {H : Type} {enc : TypeId × Value → H} {spare : Nat → Bool} {held : Bool}

theorem cells_blk {a : Addr} {n : Nat} {cs : List Value} (h : w.cells? 0 a n = some cs) (hn : 0 < n) : ∃ l, blk w a.block = some l ∧ a.spot = none ∧ cs = (l.drop a.off).take n ∧ a.off + n ≤ l.length := by
  unfold World.cells? at h
  rw [if_pos (Nat.zero_le _)] at h
  obtain ⟨h1, h2⟩ := mapM_get h
  have hl : cs.length = n := by simpa using h1
  have each : ∀ k, k < n → ∃ v, cs[k]? = some v ∧ w.cell? (a.add k) = some v := by
    intro k hk
    obtain ⟨v, hv⟩ : ∃ v, cs[k]? = some v := ⟨_, List.getElem?_eq_getElem (by omega)⟩
    obtain ⟨k', hk', hc⟩ := h2 k v hv
    have : k' = k := by
      have := List.getElem?_range (n := n) (i := k) (by omega)
      rw [this] at hk'
      exact (Option.some.inj hk').symm
    subst this
    exact ⟨v, hv, hc⟩
  obtain ⟨v0, hv0, hc0⟩ := each 0 hn
  have ha0 : a.add 0 = a := by unfold Addr.add; simp
  rw [ha0] at hc0
  unfold World.cell? at hc0
  split at hc0
  · rename_i c ty fr hb
    split at hc0
    · cases hc0
    · rename_i hs
      have hs : a.spot = none := by simpa using hs
      have hblk : blk w a.block = some c.toList := by unfold blk; rw [hb]
      obtain ⟨b, off, sp⟩ := a
      dsimp only at hs hb hblk hc0
      subst hs
      have get : ∀ k, k < n → c.toList[off + k]? = cs[k]? := by
        intro k hk
        obtain ⟨v, hv, hc⟩ := each k hk
        rw [addr_add, cell_of_blk hblk] at hc
        rw [hc, hv]
      have hlen : off + n ≤ c.toList.length := by
        have := get (n - 1) (by omega)
        rw [List.getElem?_eq_getElem (by omega : n - 1 < cs.length)] at this
        have := (List.getElem?_eq_some_iff.1 this).1
        omega
      refine ⟨c.toList, hblk, rfl, ?_, hlen⟩
      apply List.ext_getElem?
      intro k
      by_cases hk : k < n
      · rw [List.getElem?_take_of_lt hk, List.getElem?_drop, get k hk]
      · rw [List.getElem?_eq_none (by omega), List.getElem?_eq_none (by rw [List.length_take]; omega)]
  · cases hc0
end
end Go.Aix
