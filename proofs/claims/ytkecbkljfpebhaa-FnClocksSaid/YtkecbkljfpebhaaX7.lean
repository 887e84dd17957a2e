/- Sources of zones in plain words: what is right, what zone a name has, what settings its rules make, what table. No conditions but those that are written. -/
import Derived.Test.YtkecbkljfpebhaaX5
import Derived.Test.YtkecbkljfpebhaaX10
namespace Go.TL
set_option linter.unusedSimpArgs false
open Go.Proofs Go.RowKit
attribute [local irreducible] wpOpsT wpT EndT Ex.seq Ex.block W

structure RuleV where
  name : Int
  fr : Int
  to' : Int
  month : Int
  kind : Int
  day : Int
  week : Int
  at' : Int
  save : Int
instance : Inhabited RuleV := ⟨⟨0, 0, 0, 0, 0, 0, 0, 0, 0⟩⟩
def ruleC (x : RuleV) : List T := [.v (.int .i64 x.name), .v (.int .i64 x.fr), .v (.int .i64 (x.to')), .v (.int .i64 x.month), .v (.int .i64 x.kind), .v (.int .i64 x.day), .v (.int .i64 x.week), .v (.int .i64 (x.at')), .v (.int .i64 x.save)]
instance : RowE ruleC 9 := ⟨⟨fun _ => rfl, fun _ => rfl⟩⟩
instance : RowF ruleC := ⟨fun _ => rfl⟩
instance : RowV ruleC := ⟨fun _ => rfl⟩
attribute [go_sem] ruleC
structure ZoneV where
  name : Int
  off : Int
  rule : Int
instance : Inhabited ZoneV := ⟨⟨0, 0, 0⟩⟩
def zoneC (x : ZoneV) : List T := [.v (.int .i64 x.name), .v (.int .i64 x.off), .v (.int .i64 x.rule)]
instance : RowE zoneC 3 := ⟨⟨fun _ => rfl, fun _ => rfl⟩⟩
instance : RowF zoneC := ⟨fun _ => rfl⟩
instance : RowV zoneC := ⟨fun _ => rfl⟩
attribute [go_sem] zoneC
structure LinkV where
  name : Int
  to' : Int
instance : Inhabited LinkV := ⟨⟨0, 0⟩⟩
def linkC (x : LinkV) : List T := [.v (.int .i64 x.name), .v (.int .i64 (x.to'))]
instance : RowE linkC 2 := ⟨⟨fun _ => rfl, fun _ => rfl⟩⟩
instance : RowF linkC := ⟨fun _ => rfl⟩
instance : RowV linkC := ⟨fun _ => rfl⟩
attribute [go_sem] linkC

def smallP (n : Int) : Prop := 97 ≤ n ∧ n ≤ 122
instance (n : Int) : Decidable (smallP n) := inferInstanceAs (Decidable (_ ∧ _))
def greatP (n : Int) : Prop := 65 ≤ n ∧ n ≤ 90
instance (n : Int) : Decidable (greatP n) := inferInstanceAs (Decidable (_ ∧ _))
/-- A rule, a zone, a link as told. -/
def ruleP (r : RuleV) : Prop := smallP r.name ∧ yearP r.fr ∧ yearP r.to' ∧ r.fr ≤ r.to' ∧ (1 ≤ r.month ∧ r.month ≤ 12) ∧ onP r.kind r.day r.week ∧ (0 ≤ r.at' ∧ r.at' ≤ 1439) ∧ 0 ≤ r.save ∧ r.save ≤ 180
instance (r : RuleV) : Decidable (ruleP r) := inferInstanceAs (Decidable (_ ∧ _))
def zoneP (z : ZoneV) : Prop := greatP z.name ∧ (-900 ≤ z.off ∧ z.off ≤ 900) ∧ (z.rule = 0 ∨ smallP z.rule)
instance (z : ZoneV) : Decidable (zoneP z) := inferInstanceAs (Decidable (_ ∧ _))
def findRu (l : List RuleV) (n : Int) : Int := findBy (fun x => decide (x.name = n)) l
def findZo (l : List ZoneV) (n : Int) : Int := findBy (fun x => decide (x.name = n)) l
def findLi (l : List LinkV) (n : Int) : Int := findBy (fun x => decide (x.name = n)) l
theorem findZo_b (l : List ZoneV) (n : Int) : -1 ≤ findZo l n ∧ findZo l n < l.length := findBy_b _ l
theorem findLi_b (l : List LinkV) (n : Int) : -1 ≤ findLi l n ∧ findLi l n < l.length := findBy_b _ l
theorem findRu_b (l : List RuleV) (n : Int) : -1 ≤ findRu l n ∧ findRu l n < l.length := findBy_b _ l
theorem findRu_at {l : List RuleV} {n : Int} {i : Nat} (hi : i < l.length) (h : (nth l (i : Nat)).name = n) (hv : ∀ j, j < i → ¬ (nth l (j : Nat)).name = n) : findRu l n = i :=
  findBy_at hi (decide_eq_true h) fun j hj hh => hv j hj (of_decide_eq_true hh)
theorem findRu_no {l : List RuleV} {n : Int} (hv : ∀ j, j < l.length → ¬ (nth l (j : Nat)).name = n) : findRu l n = -1 :=
  findBy_no fun j hj hh => hv j hj (of_decide_eq_true hh)
theorem findZo_at {l : List ZoneV} {n : Int} {i : Nat} (hi : i < l.length) (h : (nth l (i : Nat)).name = n) (hv : ∀ j, j < i → ¬ (nth l (j : Nat)).name = n) : findZo l n = i :=
  findBy_at hi (decide_eq_true h) fun j hj hh => hv j hj (of_decide_eq_true hh)
theorem findZo_no {l : List ZoneV} {n : Int} (hv : ∀ j, j < l.length → ¬ (nth l (j : Nat)).name = n) : findZo l n = -1 :=
  findBy_no fun j hj hh => hv j hj (of_decide_eq_true hh)
theorem findLi_at {l : List LinkV} {n : Int} {i : Nat} (hi : i < l.length) (h : (nth l (i : Nat)).name = n) (hv : ∀ j, j < i → ¬ (nth l (j : Nat)).name = n) : findLi l n = i :=
  findBy_at hi (decide_eq_true h) fun j hj hh => hv j hj (of_decide_eq_true hh)
theorem findLi_no {l : List LinkV} {n : Int} (hv : ∀ j, j < l.length → ¬ (nth l (j : Nat)).name = n) : findLi l n = -1 :=
  findBy_no fun j hj hh => hv j hj (of_decide_eq_true hh)
theorem findRu_hit {l : List RuleV} {n : Int} (h : 0 ≤ findRu l n) : (nth l (findRu l n)).name = n := by
  have := findBy_hit (p := fun x : RuleV => decide (x.name = n)) (l := l) h
  exact of_decide_eq_true this
theorem findZo_hit {l : List ZoneV} {n : Int} (h : 0 ≤ findZo l n) : (nth l (findZo l n)).name = n := by
  have := findBy_hit (p := fun x : ZoneV => decide (x.name = n)) (l := l) h
  exact of_decide_eq_true this

/-- The zone, the link at a place may stand there. -/
def zoneQ (rules : List RuleV) (zones : List ZoneV) (i : Nat) : Prop := zoneP (nth zones (i : Nat)) ∧ ¬ ((0 : Int) < i ∧ (nth zones (i : Nat)).name ≤ (nth zones ((i : Int) - 1)).name) ∧ ((nth zones (i : Nat)).rule = 0 ∨ 0 ≤ findRu rules (nth zones (i : Nat)).rule)
instance (rules : List RuleV) (zones : List ZoneV) (i : Nat) : Decidable (zoneQ rules zones i) := inferInstanceAs (Decidable (_ ∧ _))
def linkQ (zones : List ZoneV) (links : List LinkV) (i : Nat) : Prop := greatP (nth links (i : Nat)).name ∧ ¬ ((0 : Int) < i ∧ (nth links (i : Nat)).name ≤ (nth links ((i : Int) - 1)).name) ∧ 0 ≤ findZo zones (nth links (i : Nat)).to' ∧ findZo zones (nth links (i : Nat)).name < 0
instance (zones : List ZoneV) (links : List LinkV) (i : Nat) : Decidable (linkQ zones links i) := inferInstanceAs (Decidable (_ ∧ _))
/-- A source as told. -/
def srcP (rules : List RuleV) (zones : List ZoneV) (links : List LinkV) : Prop :=
  rules.length ≤ 20 ∧ (∀ i, i < rules.length → ruleP (nth rules (i : Nat))) ∧ (∀ i, i < zones.length → zoneQ rules zones i) ∧ ∀ i, i < links.length → linkQ zones links i
instance (rules : List RuleV) (zones : List ZoneV) (links : List LinkV) : Decidable (srcP rules zones links) := inferInstanceAs (Decidable (_ ∧ _))

theorem asc_26 {n : Nat} {f : Nat → Int} (h1 : ∀ i, i < n → greatP (f i)) (h2 : ∀ i, i + 1 < n → f i < f (i + 1)) : n ≤ 26 := by
  have : ∀ i, i < n → 65 + (i : Int) ≤ f i := by
    intro i
    induction i with
    | zero => intro hi; have := (h1 0 hi).1; omega
    | succ i ih =>
      intro hi
      have := ih (by omega)
      have := h2 i hi
      omega
  rcases Nat.lt_or_ge 26 n with h | h
  · have a := this 26 h
    have b := (h1 26 h).2
    omega
  · exact h
theorem zones_26 {rules : List RuleV} {zones : List ZoneV} (h : ∀ i, i < zones.length → zoneQ rules zones i) : zones.length ≤ 26 :=
  asc_26 (f := fun i => (nth zones (i : Nat)).name) (fun i hi => (h i hi).1.1) fun i hi => by
    have := (h (i + 1) hi).2.1
    rw [show (((i + 1 : Nat) : Int) - 1) = (i : Nat) by omega] at this
    refine Int.not_le.1 fun hh => this ⟨by omega, hh⟩
theorem links_26 {zones : List ZoneV} {links : List LinkV} (h : ∀ i, i < links.length → linkQ zones links i) : links.length ≤ 26 :=
  asc_26 (f := fun i => (nth links (i : Nat)).name) (fun i hi => (h i hi).1) fun i hi => by
    have := (h (i + 1) hi).2.1
    rw [show (((i + 1 : Nat) : Int) - 1) = (i : Nat) by omega] at this
    refine Int.not_le.1 fun hh => this ⟨by omega, hh⟩

/-- The name behind a link. -/
def zname (links : List LinkV) (n : Int) : Int := if 0 ≤ findLi links n then (nth links (findLi links n)).to' else n
/-- The zone of a name. -/
def zonO (rules : List RuleV) (zones : List ZoneV) (links : List LinkV) (n : Int) : Prop := srcP rules zones links ∧ 0 ≤ findZo zones (zname links n)
instance (rules : List RuleV) (zones : List ZoneV) (links : List LinkV) (n : Int) : Decidable (zonO rules zones links n) := inferInstanceAs (Decidable (_ ∧ _))
def zonV (rules : List RuleV) (zones : List ZoneV) (links : List LinkV) (n : Int) : ZoneV := if zonO rules zones links n then nth zones (findZo zones (zname links n)) else ⟨0, 0, 0⟩

/-- The setting of a rule in a year. -/
def setQ (name y : Int) (r : RuleV) : Prop := (r.name = name ∧ r.fr ≤ y ∧ y ≤ r.to') ∧ onY y r.month r.kind r.day r.week
instance (name y : Int) (r : RuleV) : Decidable (setQ name y r) := inferInstanceAs (Decidable (_ ∧ _))
def setV (y : Int) (r : RuleV) : ShiftV := ⟨1440 * onF y r.month r.kind r.day r.week + r.at', r.save⟩
def setRu (name y : Int) (r : RuleV) : List ShiftV := if setQ name y r then [setV y r] else []
/-- The settings of a year's first rules; of the years before one and of its first rules. -/
def setY (name y : Int) (l : List RuleV) : List ShiftV := l.flatMap (setRu name y)
def setsN (name : Int) (l : List RuleV) : Nat → List ShiftV
  | 0 => []
  | n + 1 => setsN name l n ++ setY name (1970 + (n : Int)) l
def setsJ (name : Int) (l : List RuleV) (n j : Nat) : List ShiftV := setsN name l n ++ setY name (1970 + (n : Int)) (l.take j)
theorem setsJ_0 (name : Int) (l : List RuleV) (n : Nat) : setsJ name l n 0 = setsN name l n := by simp [setsJ, setY]
theorem setsJ_all (name : Int) (l : List RuleV) (n : Nat) : setsJ name l n l.length = setsN name l (n + 1) := by rw [setsJ, List.take_length, setsN]
theorem setsJ_s (name : Int) (l : List RuleV) (n : Nat) {j : Nat} (h : j < l.length) : setsJ name l n (j + 1) = setsJ name l n j ++ setRu name (1970 + (n : Int)) (nth l (j : Nat)) := by
  rw [setsJ, setsJ, take_nth h, setY, List.flatMap_append, ← List.append_assoc]
  simp [setY]
theorem setY_len (name y : Int) : ∀ l : List RuleV, (setY name y l).length ≤ l.length
  | [] => by simp [setY]
  | r :: l => by
    have h := setY_len name y l
    have h2 : (setRu name y r).length ≤ 1 := by unfold setRu; split <;> simp
    rw [setY, List.flatMap_cons, List.length_append, List.length_cons]
    unfold setY at h
    omega
theorem setsN_len (name : Int) (l : List RuleV) : ∀ n, (setsN name l n).length ≤ n * l.length
  | 0 => by simp [setsN]
  | n + 1 => by
    have h1 := setsN_len name l n
    have h2 := setY_len name (1970 + (n : Int)) l
    rw [setsN, List.length_append, Nat.succ_mul]
    omega
theorem setsJ_len (name : Int) (l : List RuleV) (n j : Nat) : (setsJ name l n j).length ≤ (n + 1) * l.length := by
  have h1 := setsN_len name l n
  have h2 := setY_len name (1970 + (n : Int)) (l.take j)
  rw [List.length_take] at h2
  rw [setsJ, List.length_append, Nat.succ_mul]
  omega
/-- What settings are within. -/
def setB (x : ShiftV) : Prop := -50000000 ≤ x.at' ∧ x.at' ≤ 200000000 ∧ 0 ≤ x.off ∧ x.off ≤ 180
theorem setY_b {name y : Int} {l : List RuleV} (h : ∀ r ∈ l, ruleP r) : ∀ x ∈ setY name y l, setB x := by
  intro x hx
  obtain ⟨r, hr, hx⟩ := List.mem_flatMap.1 hx
  unfold setRu at hx
  split at hx
  · rw [List.mem_singleton] at hx
    subst hx
    have h1 := h r hr
    have h2 := onF_b y r.month r.kind r.day r.week
    have h3 := h1.2.2.2.2.2.2
    unfold setB setV
    dsimp only
    omega
  · simp at hx
theorem setsN_b {name : Int} {l : List RuleV} (h : ∀ r ∈ l, ruleP r) : ∀ n, ∀ x ∈ setsN name l n, setB x
  | 0, x, hx => by simp [setsN] at hx
  | n + 1, x, hx => (List.mem_append.1 hx).elim (setsN_b h n x) (setY_b h x)
theorem setsJ_b {name : Int} {l : List RuleV} (h : ∀ r ∈ l, ruleP r) (n j : Nat) : ∀ x ∈ setsJ name l n j, setB x := fun x hx =>
  (List.mem_append.1 hx).elim (setsN_b h n x) (setY_b (fun r hr => h r (List.mem_of_mem_take hr)) x)
theorem setsN_none {l : List RuleV} {name : Int} (h : ∀ r ∈ l, r.name ≠ name) : ∀ n, setsN name l n = []
  | 0 => rfl
  | n + 1 => by
    rw [setsN, setsN_none h n, List.nil_append, setY, List.flatMap_eq_nil_iff]
    intro r hr
    rw [setRu, if_neg fun hh => h r hr hh.1.1]
/-- The settings in order. -/
def walls (l : List RuleV) (name : Int) : List ShiftV := srt (setsN name l 68)
theorem walls_len {l : List RuleV} (h : l.length ≤ 20) (name : Int) : (walls l name).length ≤ 1360 := by
  have := setsN_len name l 68
  rw [walls, srt_len]
  omega
theorem walls_b {l : List RuleV} {name : Int} (h : ∀ r ∈ l, ruleP r) : ∀ x ∈ walls l name, setB x := fun x hx =>
  setsN_b h 68 x (sameK_mem (sameK_sy (srt_ok _).2) hx)

/-- The shifts that settings make; none: one is not behind the one before. -/
def tabL (z : Int) : List ShiftV → Bool → Int → Int → List ShiftV → Option (List ShiftV)
  | [], _, _, _, o => some o
  | w :: r, f, s, t, o => if f = false ∧ w.at' - z - s ≤ t then none else tabL z r false w.off (w.at' - z - s) (if w.off = s then o else o ++ [⟨w.at' - z - s, z + w.off⟩])
/-- The table of a zone; none: it has none. -/
def tabV (z : Int) (l : List ShiftV) : Option (List ShiftV) := match tabL z l true 0 0 [] with
  | some o => if tableP z o then some o else none
  | none => none
def ztV (rules : List RuleV) (zones : List ZoneV) (links : List LinkV) (n : Int) : Option (Int × List ShiftV) :=
  if zonO rules zones links n then (match tabV (zonV rules zones links n).off (walls rules (zonV rules zones links n).rule) with
    | some o => some ((zonV rules zones links n).off, o)
    | none => none) else none
def ztO (rules : List RuleV) (zones : List ZoneV) (links : List LinkV) (n : Int) : Prop := (ztV rules zones links n).isSome = true
instance (rules : List RuleV) (zones : List ZoneV) (links : List LinkV) (n : Int) : Decidable (ztO rules zones links n) := inferInstanceAs (Decidable (_ = true))
def ztF (rules : List RuleV) (zones : List ZoneV) (links : List LinkV) (n : Int) : Int := ((ztV rules zones links n).getD (0, [])).1
def ztS (rules : List RuleV) (zones : List ZoneV) (links : List LinkV) (n : Int) : List ShiftV := ((ztV rules zones links n).getD (0, [])).2

end Go.TL
