/- What a test of all partitions of at most six elements tells of their matchings. No condition. -/
import Derived.Test.YtnkkgfeegaiakaaPlain29
namespace Go.Proofs.Ytnkkgfeegaiakaa
/-- the test of a matching of a partition -/
def tC (p : List Int) : Bool := !nonF p || (crossV (mall (List.replicate (2 * p.length) 0) (bks p p.length) (bks p p.length).length) == 0)
set_option maxRecDepth 100000 in
theorem tC_all : ((List.range 6).all fun n => tstL candP tC n []) = true := by decide +kernel
set_option maxRecDepth 100000 in
theorem tC_six : tstL candP tC 6 [] = true := by decide +kernel
theorem part_match {p : List Int} (hp : NonP p) (hl : p.length ≤ 6) : crossV (mopR p).1 = 0 := by
  have h : tC p = true := by
    by_cases h6 : p.length = 6
    · exact part_tst tC_six hp.1 h6
    · exact part_all tC_all hp.1 (by omega)
  unfold tC at h
  rw [nonF_iff.2 hp.2] at h
  unfold mopR
  rw [if_pos hp]
  simpa using h
end Go.Proofs.Ytnkkgfeegaiakaa
