/- What a caller lends to a callee, and what comes back under the caller's own numbers. No conditions. -/
import Derived.Test.YtdnclbghhdflmaaTWp
namespace Go.TL
open Go.RowKit

mutual
/-- A check of all leaves. -/
def allT (f : T → Bool) : T → Bool
  | .sl true _ _ _ cs => allTs f cs
  | .agg cs => allTs f cs
  | .tup cs => allTs f cs
  | .clo _ cs => allTs f cs
  | t => f t
def allTs (f : T → Bool) : List T → Bool
  | [] => true
  | c :: cs => allT f c && allTs f cs
end

theorem allTs_at {f : T → Bool} : ∀ (cs : List T), allTs f cs = true → ∀ (j : Nat) (c : T), cs[j]? = some c → allT f c = true
  | [], _, j, c, hc => by simp at hc
  | d :: cs, h, j, c, hc => by
    simp only [allTs, Bool.and_eq_true] at h
    cases j with
    | zero => simp at hc; subst hc; exact h.1
    | succ j => exact allTs_at cs h.2 j c (by simpa using hc)

theorem allTs_cellsAt {f : T → Bool} {any : Bool} : ∀ (p : List Nat) (e : Nat) (cs : List T) (x : Nat × List T), allTs f cs = true → cellsAt any e cs p = some x → allTs f x.2 = true
  | [], e, cs, x, h, hx => by simp only [cellsAt, Option.some.injEq] at hx; subst hx; exact h
  | c :: p, e, cs, x, h, hx => by
    unfold cellsAt at hx
    split at hx
    · rename_i k n e' cs' hc
      split at hx
      · have := allTs_at cs h c _ hc
        exact allTs_cellsAt p e' cs' x (by simpa [allT] using this) hx
      · cases hx
    · cases hx

/-- Leaves that can be seen as frozen. -/
def leafFz : T → Bool
  | .v _ => true
  | .sl false _ _ _ _ => true
  | _ => false
/-- Leaves that are no frozen tree of the tag that was lent. -/
def leafFree (L : Nat) : T → Bool
  | .sl false k _ _ _ => k != L
  | .pz k _ _ => k != L
  | _ => true
/-- Leaves that are no reference. -/
def leafNoRef : T → Bool
  | .ref _ _ _ _ => false
  | _ => true

mutual
/-- Other numbers for the roots. -/
def ren (g : Nat → Nat) : T → T
  | .sl true k n e cs => .sl true k n e (rens g cs)
  | .ref r p off n => .ref (g r) p off n
  | .ptr r p off => .ptr (g r) p off
  | .agg cs => .agg (rens g cs)
  | .tup cs => .tup (rens g cs)
  | .clo f cs => .clo f (rens g cs)
  | t => t
def rens (g : Nat → Nat) : List T → List T
  | [] => []
  | c :: cs => ren g c :: rens g cs
end

theorem rens_map (g : Nat → Nat) : ∀ cs : List T, rens g cs = cs.map (ren g)
  | [] => rfl
  | c :: cs => by rw [rens, rens_map g cs]; rfl

theorem rens_length (g : Nat → Nat) (cs : List T) : (rens g cs).length = cs.length := by rw [rens_map, List.length_map]

theorem cellsAt_rens (g : Nat → Nat) (any : Bool) : ∀ (p : List Nat) (e : Nat) (cs : List T), cellsAt any e (rens g cs) p = (cellsAt any e cs p).map fun x => (x.1, rens g x.2)
  | [], e, cs => rfl
  | c :: p, e, cs => by
    unfold cellsAt
    rw [rens_map, List.getElem?_map]
    cases hc : cs[c]? with
    | none => rfl
    | some t =>
      cases t with
      | sl own k n e' cs' =>
        cases own with
        | false => rfl
        | true =>
          simp only [Option.map_some, ren]
          split
          · exact cellsAt_rens g any p e' cs'
          · rfl
      | _ => rfl

def Root.ren (g : Nat → Nat) (x : Root) : Root := ⟨x.e, x.live, rens g x.cs⟩

/-- The caller's number for a root of the callee. -/
def backId (ρ : List Nat) (n : Nat) (i : Nat) : Nat := match ρ[i]? with | some r => r | none => n + (i - ρ.length)

/-- The caller's roots behind a call. -/
def backS (ρ : List Nat) (S S1 : Store) : Store :=
  S.zipIdx.map (fun x => match ρ.idxOf? x.2 with | some i => Root.ren (backId ρ S.length) ((S1[i]?).getD ⟨0, false, []⟩) | none => x.1) ++ (S1.drop ρ.length).map (Root.ren (backId ρ S.length))

mutual
/-- What the callee sees of an argument: 'some' is sound. -/
def lendT (rt : Bool) (S : Store) (ρ : List Nat) (L : Nat) : T → Option T
  | .v x => some (.v x)
  | .sl false k n e cs => some (.sl false (if rt = true then L else k) n e cs)
  | .sl true _ _ _ _ => none
  | .ref r p off n => match ρ.idxOf? r with
    | some i => some (.ref i p off n)
    | none => match S.at false r p with
      | some (e, cs) => if allTs leafFz cs = true ∧ off + n * e ≤ cs.length then some (.sl false L n e ((cs.drop off).take (n * e))) else none
      | none => none
  | .ptr r p off => match ρ.idxOf? r with
    | some i => some (.ptr i p off)
    | none => match S.at false r p with
      | some (_, cs) => if allTs leafFz cs = true then some (.pz L cs off) else none
      | none => none
  | .pz k cs off => some (.pz (if rt = true then L else k) cs off)
  | .agg cs => (lendTs rt S ρ L cs).map .agg
  | .tup cs => (lendTs rt S ρ L cs).map .tup
  | .clo f cs => (lendTs rt S ρ L cs).map (.clo f)
  | .dead => some .dead
def lendTs (rt : Bool) (S : Store) (ρ : List Nat) (L : Nat) : List T → Option (List T)
  | [] => some []
  | c :: cs => match lendT rt S ρ L c, lendTs rt S ρ L cs with
    | some x, some xs => some (x :: xs)
    | _, _ => none
end

theorem lendTs_at {rt : Bool} {S : Store} {ρ : List Nat} {L : Nat} : ∀ (cs xs : List T), lendTs rt S ρ L cs = some xs → xs.length = cs.length ∧ ∀ (j : Nat) (x : T), xs[j]? = some x → ∃ c, cs[j]? = some c ∧ lendT rt S ρ L c = some x
  | [], xs, h => by simp only [lendTs, Option.some.injEq] at h; subst h; exact ⟨rfl, fun j x hx => by simp at hx⟩
  | c :: cs, xs, h => by
    unfold lendTs at h
    split at h
    · rename_i y ys hy hys
      cases h
      obtain ⟨h1, h2⟩ := lendTs_at cs ys hys
      refine ⟨by simp [h1], fun j x hx => ?_⟩
      cases j with
      | zero => simp at hx; subst hx; exact ⟨c, rfl, hy⟩
      | succ j => obtain ⟨d, hd, he⟩ := h2 j x (by simpa using hx); exact ⟨d, by simpa using hd, he⟩
    · cases h

end Go.TL
