/- What the claim on this statement wants of the text YtomhhbjebgghnaaNetRds. Not trusted: Lean checks it. -/
import Derived.Test.YtomhhbjebgghnaaN3RdKit
namespace Go.Proofs.Ytomhhbjebgghnaa.P
open Go.RowKit Go.Proofs.YtomhhbjebgghnaaW.PrintWords Go.Proofs.Ytomhhbjebgghnaa.Rdk
def q29 (x : S29) : Prop := (Lit.int .i64 x.f0).wf = true ∧ (Lit.int .i64 x.f1).wf = true ∧ x.f2.size ≤ maxLen
theorem rds29 : Rds Try.prog 29 k29 q29 := by
  have r3 := rds_int (P := Try.prog) Try.underlying3 (by kernel_rfl)
  have r9 := rds_string (P := Try.prog) Try.underlying9 (by kernel_rfl)
  exact rds_iso (fun x : S29 => (x.f0, x.f1, x.f2)) (fun a => ⟨a.1, a.2.1, a.2.2⟩) (fun _ => rfl) (rds_struct Try.underlying29 (rdsL_cons r3 rfl (rdsL_cons r3 rfl (rdsL_one r9 rfl))) (by kernel_rfl))
/-- An act: its kind, its number, its datagram. -/
structure S40 where
  f0 : Int
  f1 : Int
  f2 : S29
def k40 : Kd S40 := Kd.iso (Kd.pair (Kd.int .i64) (Kd.pair (Kd.int .i64) k29)) (fun x : S40 => (x.f0, x.f1, x.f2))
def q40 (x : S40) : Prop := (Lit.int .i64 x.f0).wf = true ∧ (Lit.int .i64 x.f1).wf = true ∧ q29 x.f2
theorem rds40 : Rds Try.prog 40 k40 q40 := by
  have r3 := rds_int (P := Try.prog) Try.underlying3 (by kernel_rfl)
  exact rds_iso (fun x : S40 => (x.f0, x.f1, x.f2)) (fun a => ⟨a.1, a.2.1, a.2.2⟩) (fun _ => rfl) (rds_struct Try.underlying40 (rdsL_cons r3 rfl (rdsL_cons r3 rfl (rdsL_one rds29 rfl))) (by kernel_rfl))
theorem k40_open {w : World} {x : S40} {cs : List Value} (h : k40.K w x cs) : cs = [.int .i64 x.f0, .int .i64 x.f1, .int .i64 x.f2.f0, .int .i64 x.f2.f1, .string x.f2.f2] := by
  obtain ⟨_, _, rfl, rfl, ⟨_, _, rfl, rfl, s⟩⟩ := h
  obtain rfl := k29_open s
  exact rfl
end Go.Proofs.Ytomhhbjebgghnaa.P
