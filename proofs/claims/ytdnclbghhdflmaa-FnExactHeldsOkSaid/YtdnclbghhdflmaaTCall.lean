/- From a function's body to its contract. No conditions. -/
import Derived.Test.YtdnclbghhdflmaaTBack
namespace Go.TL
open Go.RowKit

def resT1 (P : Program) (S : Store) (fr : Nat → T) : ResultVar → Option T
  | .tmp t => some (fr t)
  | .cell a ty => loadT P S ty (fr a)

def resTs (P : Program) (S : Store) (fr : Nat → T) : List ResultVar → Option (List T)
  | [] => some []
  | r :: rs => match resT1 P S fr r, resTs P S fr rs with
    | some t, some ts => some (t :: ts)
    | _, _ => none

def packT : List T → T
  | [t] => t
  | ts => .tup ts

def initF (args : List T) : Nat → T := fun i => (args[i]?).getD (.v undef)

theorem loadVar_runs {P : Program} {E : Env} {w0 : World} {n : Nat} {fr : Nat → T} {a : Act} (h : Inv E w0) (hf : FR E n fr a) {t : TypeId} {x : Tmp} {r : T} (hr : loadT P E.S t (fr x) = some r) :
    ∃ v, (do loadVar t (← asAddr (a.tmps.getD x undef)) : Sem Value).run P E.w = .ok v E.w ∧ TR E r v := by
  have hev : TL.ev fr (.tmp x) = fr x := rfl
  obtain ⟨v, h1, h5⟩ := load_pure (P := P) (o := { (default : Oper) with op := .load t (.tmp x) }) rfl h hf (by rw [hev]; exact hr)
  have hx := hf.tr x
  have he : a.eval (.tmp x) = a.tmps.getD x undef := rfl
  have hp : ∃ ad, a.tmps.getD x undef = .pointer (some ad) := by
    unfold loadT at hr
    split at hr
    case h_2 => cases hr
    split at hr
    case h_2 => cases hr
    split at hr
    · rename_i r' p' off' hxo
      rw [hxo] at hx
      split at hr
      case h_2 => cases hr
      rename_i e cs hn
      generalize a.tmps.getD x undef = val at hx
      cases hx with
      | ptr _ hh => exact ⟨_, hh _ hn⟩
    · rename_i k cs off' hxo
      rw [hxo] at hx
      generalize a.tmps.getD x undef = val at hx
      cases hx with
      | pz => exact ⟨_, rfl⟩
    · cases hr
  obtain ⟨ad, hp⟩ := hp
  simp only [execOp, he, hp, Instr.loadAt, Instr.sureAddr, Sem.run_bind, Sem.run_pure, Result.andThen_ok] at h1
  refine ⟨v, ?_, h5⟩
  simp only [hp, asAddr, Sem.run_bind, Sem.run_pure, Result.andThen_ok]
  cases hl : (loadVar t ad).run P E.w with
  | ok v' w' => rw [hl] at h1; simp only [Result.andThen_ok, Result.ok.injEq, Next.value.injEq] at h1; rw [h1.1, h1.2]
  | halt x w' => rw [hl] at h1; simp [Result.andThen] at h1

theorem resTs_run {P : Program} {E : Env} {w0 : World} {n : Nat} {fr : Nat → T} {a : Act} (h : Inv E w0) (hf : FR E n fr a) : ∀ (rs : List ResultVar) (ts : List T), resTs P E.S fr rs = some ts →
    ∃ vs : List Value, (rs.mapM fun | .tmp t => pure (a.tmps.getD t undef) | .cell x t => do loadVar t (← asAddr (a.tmps.getD x undef)) : Sem (List Value)).run P E.w = .ok vs E.w ∧ vs.length = ts.length ∧ ∀ i t, ts[i]? = some t → TR E t (vs.getD i undef)
  | [], ts, hr => by
    simp only [resTs, Option.some.injEq] at hr
    subst hr
    exact ⟨[], by simp, rfl, fun i t hi => by simp at hi⟩
  | r :: rs, ts, hr => by
    unfold resTs at hr
    split at hr
    case h_2 => cases hr
    rename_i t ts' h1 h2
    cases hr
    obtain ⟨vs, h3, h4, h5⟩ := resTs_run h hf rs ts' h2
    have hv : ∃ v, ((match r with | .tmp t => pure (a.tmps.getD t undef) | .cell x t => do loadVar t (← asAddr (a.tmps.getD x undef)) : Sem Value)).run P E.w = .ok v E.w ∧ TR E t v := by
      cases r with
      | tmp x => simp only [resT1, Option.some.injEq] at h1; subst h1; exact ⟨_, by simp, hf.tr x⟩
      | cell x ty => exact loadVar_runs h hf h1
    obtain ⟨v, h6, h7⟩ := hv
    refine ⟨v :: vs, ?_, by simp [h4], fun i t' hi => ?_⟩
    · rw [List.mapM_cons]
      simp only [Sem.run_bind, h6, Result.andThen_ok, h3, Sem.run_pure]
    · cases i with
      | zero => simp at hi; subst hi; exact h7
      | succ i => exact h5 i t' (by simpa using hi)

theorem results_run {P : Program} {E : Env} {w0 : World} {n : Nat} {fr : Nat → T} {a : Act} (h : Inv E w0) (hf : FR E n fr a) {fn : Func} {ts : List T} (hr : resTs P E.S fr fn.results.toList = some ts) :
    ∃ v, (results fn a.tmps).run P E.w = .ok v E.w ∧ TR E (packT ts) v := by
  obtain ⟨vs, h1, h2, h3⟩ := resTs_run h hf _ _ hr
  have hm : (fn.results.mapM fun | .tmp t => pure (a.tmps.getD t undef) | .cell x t => do loadVar t (← asAddr (a.tmps.getD x undef)) : Sem (Array Value)).run P E.w = .ok vs.toArray E.w := by
    rw [Array.mapM_eq_mapM_toList, Sem.run_map, h1]
    rfl
  refine ⟨if h : vs.toArray.size = 1 then vs.toArray[0] else .tuple vs.toArray, ?_, ?_⟩
  · unfold results
    rw [Sem.run_bind]
    exact (congrArg (fun r => Result.andThen r fun (vs : Array Value) w' => (pure (if h : vs.size = 1 then vs[0] else .tuple vs) : Sem Value).run P w') hm).trans rfl
  · match ts, h2, h3 with
    | [t], h2, h3 =>
      obtain ⟨v, rfl⟩ : ∃ v, vs = [v] := by
        cases vs with
        | nil => simp at h2
        | cons v l => cases l with
          | nil => exact ⟨v, rfl⟩
          | cons => simp at h2
      exact h3 0 t rfl
    | [], h2, h3 =>
      have : vs = [] := List.eq_nil_of_length_eq_zero (by simpa using h2)
      subst this
      exact .tup rfl fun i t hi => by simp at hi
    | t1 :: t2 :: ts, h2, h3 =>
      have hne : ¬ vs.toArray.size = 1 := by simp [h2]
      rw [dif_neg hne]
      refine .tup (by simpa using h2) fun i t hi => ?_
      have := h3 i t hi
      rw [Array.getD_eq_getD_getElem?, List.getElem?_toArray, ← List.getD_eq_getElem?_getD]
      exact this

/-- What the end of a body says. -/
def EndT (P : Program) (M : Nat) (fn : Func) (res : T) (S1 : Store) (ex : Ex) (fr : Nat → T) (S : Store) : Prop :=
  match ex with
  | .exit _ => False
  | _ => ∃ ts keep fz, resTs P S fr fn.results.toList = some ts ∧ Gc M S fr S1 (fun _ => .dead) keep fz ∧ Wk (gcT keep (fzAllT fz S (packT ts))) res

theorem CallsT.of_W {P : Program} {g : FuncId} {fn : Func} {c : Code} {S : Store} {args : List T} {res : T} {S1 : Store} (hf : P.funcs[g]? = some fn) (hb : fn.body = some c) (hn : (fn.name == "runtime.NumGoroutine") = false) (ha : args.length ≤ fn.ntmps)
    (hw : W P S.length fn.ntmps c (EndT P S.length fn res S1) (initF args) S) : CallsT P S g args res S1 := by
  refine ⟨⟨fn, hf, by rw [hb]; rfl, hn⟩, fun E w0 vals hS hI hsz ht => ?_⟩
  subst hS
  refine calls_of_wp hf hb ?_
  have hFR : FR E fn.ntmps (initF args) { tmps := vals ++ Array.replicate (fn.ntmps - vals.size) undef, defers := [] } := by
    refine ⟨by simp; omega, fun t => ?_⟩
    unfold initF
    rcases Nat.lt_or_ge t args.length with hlt | hge
    · rw [List.getElem?_eq_getElem hlt]
      have := ht t _ (List.getElem?_eq_getElem hlt)
      rw [Array.getD_eq_getD_getElem?, Array.getElem?_append_left (by omega), ← Array.getD_eq_getD_getElem?]
      exact this
    · rw [List.getElem?_eq_none hge]
      have hu : (vals ++ Array.replicate (fn.ntmps - vals.size) undef).getD t undef = undef := by
        rw [Array.getD_eq_getD_getElem?, Array.getElem?_append_right (by omega), Array.getElem?_replicate]
        split <;> rfl
      simp only [Option.getD_none]
      rw [hu]
      exact .v _
  refine wp_mono (hw E _ E w0 rfl rfl (Evo.refl E) hI hFR) fun e a' w' hp => ?_
  obtain ⟨ex, fr', E', rfl, hq, rfl, hI', hE, hF, hd⟩ := hp
  have fin : (∃ ts keep fz, resTs P E'.S fr' fn.results.toList = some ts ∧ Gc E.S.length E'.S fr' S1 (fun _ => .dead) keep fz ∧ Wk (gcT keep (fzAllT fz E'.S (packT ts))) res) →
      a'.defers = [] ∧ ∃ v, (results fn a'.tmps).run P E'.w = .ok v E'.w ∧ ∃ v_1 E'_1, Ending.returned v = Ending.returned v_1 ∧ E'_1.w = E'.w ∧ E'_1.S = S1 ∧ Inv E'_1 w0 ∧ Evo E E'_1 ∧ TR E'_1 res v_1 := by
    rintro ⟨ts, keep, fz, h1, hg, hres⟩
    obtain ⟨v, h2, h3⟩ := results_run hI' hF h1
    obtain ⟨E2, k1, k2, k3, k4, _, k6⟩ := hg.frees hI' rfl hE hF
    exact ⟨hd, v, h2, v, E2, rfl, k1, k2, k3, k4, (k6 _ _ h3).wk hres⟩
  cases ex with
  | normal => exact fin hq
  | ret => exact fin hq
  | exit i => exact hq.elim

end Go.TL
