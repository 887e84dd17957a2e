/- Texts joined. No conditions but those that are written. -/
import Derived.Test.YtneiifghegdfgaaDoorU8
import Derived.Test.YtneiifghegdfgaaDoorTOpen
import Derived.Test.YtneiifghegdfgaaDoorJG0G20
/- The law of ParseDeed on trees. No conditions but those that are written. -/
namespace Go.TL
set_option linter.unusedSimpArgs false
open Go.Proofs Go.RowKit

set_option maxHeartbeats 4000000 in
theorem laws_eqDeed (k a t r p : Int) (x : ByteArray) : CallsT Tryd.prog [] F.laws_eqDeed [.agg [.v (.int .i64 k), .v (.int .i64 a), .v (.int .i64 t), .v (.int .i64 r), .v (.int .i64 p), .v (.string x)], .agg [.v (.int .i64 k), .v (.int .i64 a), .v (.int .i64 t), .v (.int .i64 r), .v (.int .i64 p), .v (.string x)]] (.v (.bool true)) [] := by
  refine fnT C.laws_eqDeed ?_
  refine run ?_
  exact r_end [] []
instance (k a t r p : Int) (x : ByteArray) : Con Tryd.prog F.laws_eqDeed [.agg [.v (.int .i64 k), .v (.int .i64 a), .v (.int .i64 t), .v (.int .i64 r), .v (.int .i64 p), .v (.string x)], .agg [.v (.int .i64 k), .v (.int .i64 a), .v (.int .i64 t), .v (.int .i64 r), .v (.int .i64 p), .v (.string x)]] True (.v (.bool true)) [] := ⟨fun _ => laws_eqDeed k a t r p x⟩

attribute [local go_sem] deedC
set_option maxHeartbeats 4000000 in
theorem laws_FnExactParseDeed (s : ByteArray) (hpre : s.size ≤ 140737488355328) : CallsT Tryd.prog [] F.laws_FnExactParseDeed [.v (.string s)] (.v (.bool true)) [] := by
  refine fnT C.laws_FnExactParseDeed ?_
  refine run ?_
  refine r_ifd (fun h => ?_) (fun h => ?_)
  · refine run ?_
    exact r_end [] []
  refine run ?_
  exact r_end [] []
instance (s : ByteArray) : Con Tryd.prog F.laws_FnExactParseDeed [.v (.string s)] (s.size ≤ 140737488355328) (.v (.bool true)) [] := ⟨fun h => laws_FnExactParseDeed s h⟩

end Go.TL

/- The law of lines on trees: what is written is read, what is read is written. No conditions but those that are written. -/
namespace Go.TL
set_option linter.unusedSimpArgs false
open Go.Proofs Go.RowKit
attribute [local irreducible] wpOpsT wpT EndT Ex.seq Ex.block W

attribute [local go_sem] deedC
set_option maxHeartbeats 8000000 in
set_option maxHeartbeats 4000000 in
theorem laws_FnLine (l : List Int) (hpre : (∀ x ∈ l, 0 ≤ x ∧ x < 256) ∧ l.length ≤ 140737488351232) : CallsT Tryd.prog [] F.laws_FnLine [.sl false 0 l.length 1 (rowT u8C l)] (.v (.bool true)) [] := by
  refine fnT C.laws_FnLine ?_
  obtain ⟨d, hd, h1⟩ := drawDeedLine_ex l hpre
  obtain ⟨s, hs, h2⟩ := drawParseDeed_ex l hpre
  have hi := small_i64 hd
  dsimp only [deedC] at h1
  have hpi := impl_ParseDeed s (by omega)
  have hps := spec_ParseDeed s (by omega)
  have hpl := parse_line (s := s)
  have hpn := parse_none (s := s)
  generalize parseV s = P at *
  obtain ⟨e, how⟩ := P
  dsimp only [deedC] at hpi hps hpl hpn
  refine run ?_
  refine r_ifd (fun h => ?_) (fun h => ?_)
  · refine run ?_
    exact r_end [] []
  refine runC ?_
  refine r_callp false h1 ?_
  refine run ?_
  have hrest : True := trivial
  refine r_ifd (fun hb => ?_) (fun hb => ?_)
  · have hpd := impl_ParseDeed (lineB d.kind d.at_ d.to d.rel d.part d.text) (by have := line_small (d := d) hb; omega)
    rw [line_back (d := d) hb] at hpd
    dsimp only [deedC] at hpd
    refine runC ?_
    refine r_callp false hpd ?_
    refine run ?_
    refine r_callp false h2 ?_
    refine runC ?_
    refine r_callp false hpi ?_
    refine runC ?_
    refine r_callp false hps ?_
    refine run ?_
    refine r_ifd (fun h3 => ?_) (fun h3 => ?_)
    · obtain rfl := hpn h3
      dsimp only [zeroD]
      refine run ?_
      exact r_end [] []
    · have h3 := Decidable.not_not.1 h3
      obtain ⟨hok, hle⟩ := hpl h3
      have hdb := deed_b hok
      have hdl := impl_DeedLine e.kind e.at_ e.to e.rel e.part e.text (by unfold I64; omega)
      rw [hle, decide_eq_true (show deedP e.kind e.at_ e.to e.rel e.part e.text from hok)] at hdl
      refine runC ?_
      refine r_callp false hdl ?_
      refine run ?_
      refine r_endv ?_
      refine congrArg _ (decide_eq_true ?_)
      exact hok
  · refine run ?_
    refine r_callp false h2 ?_
    refine runC ?_
    refine r_callp false hpi ?_
    refine runC ?_
    refine r_callp false hps ?_
    refine run ?_
    refine r_ifd (fun h3 => ?_) (fun h3 => ?_)
    · obtain rfl := hpn h3
      dsimp only [zeroD]
      refine run ?_
      exact r_end [] []
    · have h3 := Decidable.not_not.1 h3
      obtain ⟨hok, hle⟩ := hpl h3
      have hdb := deed_b hok
      have hdl := impl_DeedLine e.kind e.at_ e.to e.rel e.part e.text (by unfold I64; omega)
      rw [hle, decide_eq_true (show deedP e.kind e.at_ e.to e.rel e.part e.text from hok)] at hdl
      refine runC ?_
      refine r_callp false hdl ?_
      refine run ?_
      refine r_endv ?_
      refine congrArg _ (decide_eq_true ?_)
      exact hok
instance (l : List Int) : Con Tryd.prog F.laws_FnLine [.sl false 0 l.length 1 (rowT u8C l)] ((∀ x ∈ l, 0 ≤ x ∧ x < 256) ∧ l.length ≤ 140737488351232) (.v (.bool true)) [] := ⟨fun h => laws_FnLine l h⟩

end Go.TL
