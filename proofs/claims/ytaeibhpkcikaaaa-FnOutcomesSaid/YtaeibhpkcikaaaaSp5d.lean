/- Contracts: the reference's transformers of contracts (printed by mk5d.py). -/
import Derived.Test.YtaeibhpkcikaaaaSp5c
import Derived.Deep.RegionHeld3
import Derived.Test.YtaeibhpkcikaaaaGC
namespace Go.Proofs.Ytaeibhpkcikaaaa
set_option linter.unusedVariables false
set_option linter.unusedSimpArgs false
open Go.RowKit Go.Shelf
set_option maxRecDepth 100000
set_option maxHeartbeats 1000000

theorem notp_dif {a q : Int} (ha : C a) (hq : C q) : bits .and .i64 (notp q) a = bits .andNot .i64 a q := C.ext (C.and (notp_ok hq) ha) (C.dif ha hq) fun i hi => by
  rw [has_and (C.fit16 (notp_ok hq)) ha.fit16, has_notp hq hi, has_dif ha.fit16 hq.fit16, Bool.and_comm]
theorem dual_ass {q : Int} (hq : C q) : Eq16 (dualT (assT q)) (assuT q) := fun k hk => by
  have hn := notp_ok (c_nat hk)
  refine C.ext (dualT_ok (assT_ok hq) k) (assuT_ok hq k) fun i hi => ?_
  show has (notp (assT q (notp (k : Int)).toNat)) i = has (assuT q k) i
  rw [has_notp (assT_ok hq _) hi, assT_at (lt16 hn), toNat_cast hn, assuT_at hk, has_and hq.fit16 hn.fit16, has_or (C.fit16 (c_nat hk)) (C.fit16 (notp_ok hq)), has_notp (c_nat hk) hi, has_notp hq hi]
  cases has q i <;> cases has (k : Int) i <;> rfl
theorem join_ite {q : Int} {t u : Nat → Int} (hq : C q) (ht : Mon t) (hu : Mon u) : Eq16 (joinT (thenT (assT q) t) (thenT (assT (notp q)) u)) (iteT q t u) := fun k hk => by
  show bits .or .i64 (assT q (t k).toNat) (assT (notp q) (u k).toNat) = bits .or .i64 (bits .and .i64 q (t k)) (bits .andNot .i64 (u k) q)
  rw [assT_at (lt16 (ht.ok k)), assT_at (lt16 (hu.ok k)), toNat_cast (ht.ok k), toNat_cast (hu.ok k), notp_dif (hu.ok k) hq]
/-- the four digits of a relation as they stand in a contract's text -/
theorem rel_ext {o : UInt8} {d : List Int} (ht : (Ct.n0 o d).WF) (hn : d.length = 4) : okTxt 4 ((Ct.n0 o d).text.extract 1 5) = true ∧ ∀ k, k < 4 → val ((Ct.n0 o d).text.extract 1 5) k = dsF d k := by
  have hl := lies_text (Ct.n0 o d)
  have hs : (Ct.n0 o d).text.size = 5 := by rw [Ct.text_size, Ct.len0, hn]
  have hd := hl.digOk ht
  rw [show (Ct.n0 o d).ds.length = 4 from hn, Nat.zero_add] at hd
  have h1 := digOk_ext (c := (Ct.n0 o d).text) (a := 1) (n := 4) (by omega)
  rw [hd] at h1
  refine ⟨h1, fun k hk => ?_⟩
  rw [okTxt_val h1 k hk, bt_extract _ 1 5 k (by omega)]
  have := hl.hx ht k (by rw [show (Ct.n0 o d).ds.length = 4 from hn]; exact hk)
  rw [Nat.zero_add] at this
  exact this
/-- the first digit -/
theorem dig_ext {t : Ct} (ht : t.WF) (hn : t.ds.length = 1) : hx (bt t.text 1) = dsF t.ds 0 := by
  have := (lies_text t).hx ht 0 (by omega)
  exact this

end Go.Proofs.Ytaeibhpkcikaaaa
