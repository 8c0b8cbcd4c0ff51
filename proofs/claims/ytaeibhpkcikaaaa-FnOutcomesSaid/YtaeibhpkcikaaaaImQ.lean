/- Plays: what all plays come to, the program. -/
import Derived.Test.YtaeibhpkcikaaaaGP
import Derived.Test.YtaeibhpkcikaaaaGL
import Derived.Test.YtaeibhpkcikaaaaSpP9
import Derived.Test.YtaeibhpkcikaaaaSpQ
import Derived.Maps.RangeWalk
import Derived.Maps.AppendAt
namespace Go.Proofs.Ytaeibhpkcikaaaa
set_option linter.unusedVariables false
set_option linter.unusedSimpArgs false
open Go.RowKit Go.Shelf
set_option maxRecDepth 100000
set_option maxHeartbeats 10000000

theorem tl_u : ∃ fs, Try.prog.underlying 96 = some (.struct fs) := ⟨_, Try.underlying96⟩
theorem tl_i : (Try.prog.info? 96).map (·.size) = some 4 := by kernel_rfl
def Sm.cel (a : Sm) : Array Value := #[.int .i64 (a.plays : Nat), .int .i64 a.ends, .bool a.angel, .bool a.demon]
theorem gb_of {w w' : World} {tb : Nat} (h : Below w.heap.size w w') : w.grownBy w' (some tb) := World.grownBy.but (grown_of h) _
theorem gb_set {w : World} {tb : Nat} (i : Nat) (v : Value) : w.grownBy (w.setCell ⟨tb, i, none⟩ v) (some tb) :=
  ⟨rfl, rfl, rfl, by simp, fun k hk hne => heap_setCell_other w ⟨tb, i, none⟩ k v (fun e => hne (by rw [e]))⟩
theorem Blk.gb {w w' : World} {b tb : Nat} {t : TypeId} {c : Array Value} (h : Blk w b t c) (hg : w.grownBy w' (some tb)) (hne : b ≠ tb) : Blk w' b t c := ⟨(hg.block b h.lt (by simpa using hne)).trans h.eq⟩
theorem Ints.gb {w w' : World} {g tb : Nat} {l : List Nat} (h : Ints w g l) (hg : w.grownBy w' (some tb)) (hne : g ≠ tb) : Ints w' g l := ⟨fun j v hj => by
  have hc := h.lies j v hj
  exact cell_kept hc (hg.block g (block_lt_of_cell hc) (by simpa using hne))⟩
theorem AtP.gb {w w' : World} {S : Nat → Prop} {ts : List Ct} {g cap tb : Nat} {T : TypeId} {x y : Int} {p q : Bool} (h : AtP w S ts g cap) (hg : w.grownBy w' (some tb)) (hB : Blk w tb T #[.int .i64 x, .int .i64 y, .bool p, .bool q]) (hS : ¬ S tb) : AtP w' S ts g cap := by
  obtain ⟨bs, h1, h2, h3⟩ := h
  refine ⟨bs, ⟨fun j b hj => ?_⟩, h2.map (fun t c h => Tree.kept (fun k hk hl => hg.block k hl (by simp; rintro rfl; exact hS hk)) t c h), h3⟩
  have hc := h1.lies j b hj
  refine cell_kept hc (hg.block g (block_lt_of_cell hc) ?_)
  simp only [ne_eq, Option.some.injEq]
  rintro rfl
  rw [cell_of_row _ _ j _ _ _ hB.eq] at hc
  match j, hc with
  | 0, hc => simp [ptr] at hc
  | 1, hc => simp [ptr] at hc
  | 2, hc => simp [ptr] at hc
  | 3, hc => simp [ptr] at hc
  | j + 4, hc => simp at hc
theorem Blk.s0 {w : World} {b : Nat} {t : TypeId} {x y z u : Value} (h : Blk w b t #[x, y, z, u]) (v : Value) : Blk (w.setCell ⟨b, 0, none⟩ v) b t #[v, y, z, u] := ⟨by rw [heap_setCell_same w b 0 _ _ _ h.eq]; rfl⟩
theorem Blk.s1 {w : World} {b : Nat} {t : TypeId} {x y z u : Value} (h : Blk w b t #[x, y, z, u]) (v : Value) : Blk (w.setCell ⟨b, 1, none⟩ v) b t #[x, v, z, u] := ⟨by rw [heap_setCell_same w b 1 _ _ _ h.eq]; rfl⟩
theorem Blk.s2 {w : World} {b : Nat} {t : TypeId} {x y z u : Value} (h : Blk w b t #[x, y, z, u]) (v : Value) : Blk (w.setCell ⟨b, 2, none⟩ v) b t #[x, y, v, u] := ⟨by rw [heap_setCell_same w b 2 _ _ _ h.eq]; rfl⟩
theorem Blk.s3 {w : World} {b : Nat} {t : TypeId} {x y z u : Value} (h : Blk w b t #[x, y, z, u]) (v : Value) : Blk (w.setCell ⟨b, 3, none⟩ v) b t #[x, y, z, v] := ⟨by rw [heap_setCell_same w b 3 _ _ _ h.eq]; rfl⟩
def WalkEnd (tb : Nat) (a : Sm) (w : World) (e : Ending) (w' : World) : Prop := e = .returned (.tuple #[]) ∧ w.grownBy w' (some tb) ∧ Blk w' tb 96 a.cel
theorem add_leaf_done (acc : Sm) (s : Nat) : acc.add (leafS .done s) = ⟨acc.plays + 1, bits .or .i64 acc.ends (sh s), acc.angel, acc.demon⟩ := by simp [Sm.add, leafS]
theorem add_leaf_angel (acc : Sm) (s : Nat) (ha : C acc.ends) : acc.add (leafS (.broke true) s) = ⟨acc.plays + 1, acc.ends, true, acc.demon⟩ := by simp [Sm.add, leafS, or_zeroC ha]
theorem add_leaf_demon (acc : Sm) (s : Nat) (ha : C acc.ends) : acc.add (leafS (.broke false) s) = ⟨acc.plays + 1, acc.ends, acc.angel, true⟩ := by simp [Sm.add, leafS, or_zeroC ha]
/-- an end is counted -/
theorem impl_walkLeaf (tb : Nat) (acc : Sm) (hp : acc.plays ≤ 4398046511104) (ha : C acc.ends) (f : Fin) (hf : f ≠ .pick) (hf2 : f ≠ .long) (s : Nat) (hs : s < 4) (g cap l : Nat) (n : Int) (w : World) (hB : Blk w tb 96 acc.cel)
    (HR : ∀ W, Below w.heap.size w W → Calls Try.prog 92 #[.agg #[.int .i64 s, .slice (some ⟨g, 0, none⟩) l cap, .int .i64 n]] W fun e w' => Below W.heap.size W w' ∧ ∃ g2 cap2 l2 n2, e = .returned (.tuple #[.agg #[.int .i64 s, .slice (some ⟨g2, 0, none⟩) l2 cap2, .int .i64 n2], .string ⟨#[]⟩, .string (fwE f)])) :
    Calls Try.prog 144 #[.pointer (some ⟨tb, 0, none⟩), .agg #[.int .i64 s, .slice (some ⟨g, 0, none⟩) l cap, .int .i64 n]] w (WalkEnd tb (acc.add (leafS f s)) w) := by
  obtain ⟨fs, hu⟩ := pl_u
  have hb0 := below_new (Below.refl w.heap.size w) (Obj.cells #[.int .i64 s, .slice (some ⟨g, 0, none⟩) l cap, .int .i64 n] 63)
  have BX := Blk.new w 63 #[.int .i64 s, .slice (some ⟨g, 0, none⟩) l cap, .int .i64 n]
  have HR2 := HR _ hb0
  have hBA := hB.grown hb0
  clear HR
  obtain ⟨p1, e1, a1, d1⟩ := acc
  simp only at hp ha
  go_enter Try.func144, Try.ntmps144
  go_wp2_with (refine wp_load_Blk rfl _ _ rfl w.heap.size rfl BX hu rfl pl_i ?_)
  refine HR2.mono ?_
  rintro e w1 ⟨hb1, g2, cap2, l2, n2, rfl⟩
  have hb := below_new (below_step hb0 hb1) (Obj.cells #[.int .i64 s, .slice (some ⟨g2, 0, none⟩) l2 cap2, .int .i64 n2] 63)
  have BY := Blk.new w1 63 #[.int .i64 s, .slice (some ⟨g2, 0, none⟩) l2 cap2, .int .i64 n2]
  have hB1 := (hBA.grown hb1).old (Obj.cells #[.int .i64 s, .slice (some ⟨g2, 0, none⟩) l2 cap2, .int .i64 n2] 63)
  have hlt := (hBA.grown hb1).lt
  clear HR2
  have hc0 := (show Blk _ tb 96 #[.int .i64 (p1 : Nat), .int .i64 e1, .bool a1, .bool d1] from hB1).cell4
  obtain ⟨c0, c1, c2, c3⟩ := hc0
  have f0 := hB1.free 0
  have hB2 := ((show Blk w1 tb 96 #[.int .i64 (p1 : Nat), .int .i64 e1, .bool a1, .bool d1] from hBA.grown hb1).s0 (.int .i64 ((p1 : Int) + 1))).old (Obj.cells #[.int .i64 s, .slice (some ⟨g2, 0, none⟩) l2 cap2, .int .i64 n2] 63)
  have BY2 := Blk.newAt (w1.setCell ⟨tb, 0, none⟩ (.int .i64 ((p1 : Int) + 1))) 63 #[.int .i64 s, .slice (some ⟨g2, 0, none⟩) l2 cap2, .int .i64 n2] w1.heap.size (by simp)
  have hg2 := ((gb_of (tb := tb) (below_step hb0 hb1)).trans (gb_set (tb := tb) 0 (.int .i64 ((p1 : Int) + 1)))).trans (gb_of (tb := tb) (below_new (Below.refl _ _) (Obj.cells #[.int .i64 s, .slice (some ⟨g2, 0, none⟩) l2 cap2, .int .i64 n2] 63)))
  have hc20 := BY2.cell3.1
  obtain ⟨k0, k1, k2, k3⟩ := hB2.cell4
  have fr := fun i => hB2.free i
  have fr1 := fr 1
  have fr2 := fr 2
  have fr3 := fr 3
  clear fr
  cases f with
  | pick => exact absurd rfl hf
  | long => exact absurd rfl hf2
  | done =>
    have HS := Lib.hid (add_leaf_done ⟨p1, e1, a1, d1⟩ s)
    rw [show fwE .done = ⟨#[100, 111, 110, 101]⟩ from rfl]
    go_wp2_with (refine wp_store_BlkNew rfl _ _ _ rfl rfl rfl pl_i rfl (by simp [Value.oneCell']) ?_)
    generalize (w1.setCell ⟨tb, 0, none⟩ (.int .i64 ((p1 : Int) + 1))).alloc (Obj.cells #[.int .i64 s, .slice (some ⟨g2, 0, none⟩) l2 cap2, .int .i64 n2] 63) = W2 at *
    have kd1 : W2.drew.cell? ⟨tb, 1, none⟩ = some (.int .i64 e1) := k1
    have kd2 : W2.drew.cell? ⟨w1.heap.size, 0, none⟩ = some (.int .i64 s) := hc20
    have kd3 : W2.drew.frozen? ⟨tb, 1, none⟩ = false := fr1
    refine wp_region_still_tail 10 (by kernel_rfl) (by kernel_rfl) ?_
    simp only [List.take_succ_cons, List.take_zero, List.drop_succ_cons, List.drop_zero]
    repeat still_step
    try refine wpStill_nil ?_
    change wpList _ _ _ _ _ W2.drew
    go_wp2_with fail
    go_end0
    refine ⟨rfl, ?_, ?_⟩
    · exact (hg2.trans (gb_set (tb := tb) 1 _)).trans (gb_of (Below.refl _ _).drew)
    · rw [HS.out]
      exact (hB2.s1 (.int .i64 (bits .or .i64 e1 (wrap64 (2 ^ s))))).drew
  | broke a =>
    cases a
    · have HS := Lib.hid (add_leaf_demon ⟨p1, e1, a1, d1⟩ s ha)
      rw [show fwE (.broke false) = ⟨#[100, 101, 109, 111, 110]⟩ from rfl]
      go_wp2_with (refine wp_store_BlkNew rfl _ _ _ rfl rfl rfl pl_i rfl (by simp [Value.oneCell']) ?_)
      go_end0
      refine ⟨rfl, ?_, ?_⟩
      · exact (((gb_of (tb := tb) (below_step hb0 hb1)).trans (gb_set (tb := tb) 0 (.int .i64 ((p1 : Int) + 1)))).trans (gb_set (tb := tb) 3 (.bool true))).trans (gb_of (tb := tb) (below_new (Below.refl _ _) (Obj.cells #[.int .i64 s, .slice (some ⟨g2, 0, none⟩) l2 cap2, .int .i64 n2] 63)))
      · rw [HS.out]
        exact (((show Blk w1 tb 96 #[.int .i64 (p1 : Nat), .int .i64 e1, .bool a1, .bool d1] from hBA.grown hb1).s0 (.int .i64 ((p1 : Int) + 1))).s3 (.bool true)).old (Obj.cells #[.int .i64 s, .slice (some ⟨g2, 0, none⟩) l2 cap2, .int .i64 n2] 63)
    · have HS := Lib.hid (add_leaf_angel ⟨p1, e1, a1, d1⟩ s ha)
      rw [show fwE (.broke true) = ⟨#[97, 110, 103, 101, 108]⟩ from rfl]
      go_wp2_with (refine wp_store_BlkNew rfl _ _ _ rfl rfl rfl pl_i rfl (by simp [Value.oneCell']) ?_)
      go_end0
      refine ⟨rfl, ?_, ?_⟩
      · exact (((gb_of (tb := tb) (below_step hb0 hb1)).trans (gb_set (tb := tb) 0 (.int .i64 ((p1 : Int) + 1)))).trans (gb_set (tb := tb) 2 (.bool true))).trans (gb_of (tb := tb) (below_new (Below.refl _ _) (Obj.cells #[.int .i64 s, .slice (some ⟨g2, 0, none⟩) l2 cap2, .int .i64 n2] 63)))
      · rw [HS.out]
        exact (((show Blk w1 tb 96 #[.int .i64 (p1 : Nat), .int .i64 e1, .bool a1, .bool d1] from hBA.grown hb1).s0 (.int .i64 ((p1 : Int) + 1))).s2 (.bool true)).old (Obj.cells #[.int .i64 s, .slice (some ⟨g2, 0, none⟩) l2 cap2, .int .i64 n2] 63)
structure WalkAt (w wr : World) (S : Nat → Prop) (tb Y : Nat) (t1 : Ct) (us : List Ct) (s tn g cap g4 : Nat) (sm : Sm) : Prop where
  gb : w.grownBy wr (some tb)
  y : Blk wr Y 63 #[.int .i64 s, .slice (some ⟨g, 0, none⟩) (us.length + 1) cap, .int .i64 tn]
  o : Blk wr tb 96 sm.cel
  t : AtP wr S (t1 :: us) g cap
  i : Ints wr g4 (t1.opts s)
theorem WalkAt.ext {w wr : World} {S : Nat → Prop} {tb Y : Nat} {t1 : Ct} {us : List Ct} {s tn g cap g4 : Nat} {sm sm' : Sm} (h : WalkAt w wr S tb Y t1 us s tn g cap g4 sm) (e : sm = sm') : WalkAt w wr S tb Y t1 us s tn g cap g4 sm' := e ▸ h
theorem WalkAt.grown {w wr wr' : World} {S : Nat → Prop} {tb Y : Nat} {t1 : Ct} {us : List Ct} {s tn g cap g4 : Nat} {sm : Sm} (h : WalkAt w wr S tb Y t1 us s tn g cap g4 sm) (hb : Below wr.heap.size wr wr') : WalkAt w wr' S tb Y t1 us s tn g cap g4 sm :=
  ⟨h.gb.trans (gb_of hb), h.y.grown hb, h.o.grown hb, h.t.grown hb, h.i.grown hb⟩
theorem WalkAt.walked {w wr wr' : World} {S : Nat → Prop} {tb Y : Nat} {t1 : Ct} {us : List Ct} {s tn g cap g4 : Nat} {sm sm' : Sm} (h : WalkAt w wr S tb Y t1 us s tn g cap g4 sm) (hY : Y ≠ tb) (hg : g4 ≠ tb) (hS : ¬ S tb) (hb : wr.grownBy wr' (some tb)) (ho : Blk wr' tb 96 sm'.cel) : WalkAt w wr' S tb Y t1 us s tn g cap g4 sm' :=
  ⟨h.gb.trans hb, h.y.gb hb hY, ho, h.t.gb hb h.o hS, h.i.gb hb hg⟩
theorem impl_walkPick (S : Nat → Prop) (tb : Nat) (acc : Sm) (ha : C acc.ends) (s : Nat) (hs : s < 4) (g cap l : Nat) (n : Int) (tn : Nat) (htn : tn ≤ 999) (w : World) (t1 : Ct) (us : List Ct) (hf1 : t1.WF ∧ t1.len ≤ 200) (hnx : t1.next s = .pick) (hlen : us.length ≤ 1000) (F : Nat → Sm) (hp : acc.plays + (sumO (t1.opts s) F).plays ≤ 4398046511104) (hC : ∀ k ∈ t1.opts s, C (F k).ends)
    (hB : Blk w tb 96 acc.cel) (hS : ∀ q, S q → q < w.heap.size) (hSt : ¬ S tb)
    (HR : ∀ W, Below w.heap.size w W → Calls Try.prog 92 #[.agg #[.int .i64 s, .slice (some ⟨g, 0, none⟩) l cap, .int .i64 n]] W fun e w' => Below W.heap.size W w' ∧ ∃ g2 cap2, e = .returned (.tuple #[.agg #[.int .i64 s, .slice (some ⟨g2, 0, none⟩) (us.length + 1) cap2, .int .i64 tn], .string (whoN t1.who), .string ⟨#[]⟩]) ∧ AtP w' S (t1 :: us) g2 cap2)
    (REC : ∀ k ∈ t1.opts s, ∀ (g cap kk : Nat) (W : World) (a : Sm), ((t1.chose s k).2 ++ us).length = kk → AtP W S ((t1.chose s k).2 ++ us) g cap → Blk W tb 96 a.cel → C a.ends → a.plays + (F k).plays ≤ 4398046511104 → (∀ q, S q → q < W.heap.size) → Calls Try.prog 144 #[.pointer (some ⟨tb, 0, none⟩), .agg #[.int .i64 ((t1.chose s k).1 : Nat), .slice (some ⟨g, 0, none⟩) kk cap, .int .i64 ((tn + 1 : Nat))]] W (WalkEnd tb (a.add (F k)) W)) :
    Calls Try.prog 144 #[.pointer (some ⟨tb, 0, none⟩), .agg #[.int .i64 s, .slice (some ⟨g, 0, none⟩) l cap, .int .i64 n]] w (WalkEnd tb (acc.add (sumO (t1.opts s) F)) w) := by
  obtain ⟨fs, hu⟩ := pl_u
  have hb0 := below_new (Below.refl w.heap.size w) (Obj.cells #[.int .i64 s, .slice (some ⟨g, 0, none⟩) l cap, .int .i64 n] 63)
  have BX := Blk.new w 63 #[.int .i64 s, .slice (some ⟨g, 0, none⟩) l cap, .int .i64 n]
  have HR2 := HR _ hb0
  have hBA := hB.grown hb0
  have HREC := Lib.hid REC
  have HNX := Lib.hid hnx
  have HLT := hB.lt
  clear HR REC hnx
  go_enter Try.func144, Try.ntmps144
  go_wp2_with (refine wp_load_Blk rfl _ _ rfl w.heap.size rfl BX hu rfl pl_i ?_)
  refine HR2.mono ?_
  rintro e w1 ⟨hb1, g2, cap2, rfl, hP1⟩
  have hb2 := below_step hb0 hb1
  have hYl : tb < w1.heap.size := (hBA.grown hb1).lt
  have BY := Blk.new w1 63 #[.int .i64 s, .slice (some ⟨g2, 0, none⟩) (us.length + 1) cap2, .int .i64 tn]
  have hbY := below_new (Below.refl w1.heap.size w1) (Obj.cells #[.int .i64 s, .slice (some ⟨g2, 0, none⟩) (us.length + 1) cap2, .int .i64 tn] 63)
  have hB3 := (hBA.grown hb1).grown hbY
  have hP3 := hP1.grown hbY
  have hgb3 := gb_of (tb := tb) (below_step hb2 hbY)
  have HCH := Lib.hid (impl_choices S t1 hf1.1 us s hs HNX.out tn g2 cap2 _ hP3 (by omega))
  have hS3 : ∀ q, S q → q < w1.heap.size := fun q hq => by have := hS q hq; have := hb2.size; omega
  clear HR2 BX hBA hb0 hb1 hP1 hS
  obtain hw | hw : whoN t1.who = ⟨#[97, 110, 103, 101, 108]⟩ ∨ whoN t1.who = ⟨#[100, 101, 109, 111, 110]⟩ := by cases t1.who <;> simp [whoN]
  all_goals
    rw [hw]
    clear hw
    go_wp2_with (first
      | (refine wp_store_BlkNew rfl _ _ _ rfl rfl rfl pl_i rfl (by simp [Value.oneCell']) ?_)
      | (refine wp_load_Blk rfl _ _ rfl w1.heap.size rfl BY hu rfl pl_i ?_))
    refine HCH.out.mono ?_
    rintro e w3 ⟨g4, cap4, rfl, hI, hb3, hg4⟩
    have H0 : WalkAt w w3 S tb w1.heap.size t1 us s tn g2 cap2 g4 acc := ⟨hgb3.trans (gb_of hb3), BY.grown hb3, hB3.grown hb3, hP3.grown hb3, hI⟩
    have hg4t : g4 ≠ tb := by simp at hg4; omega
    have hYt : w1.heap.size ≠ tb := by omega
    have hS4 : ∀ q, S q → q < w3.heap.size := fun q hq => by have := hS3 q hq; have := hb3.size; simp at this; omega
    have hol := opts_le t1 s
    have HOL := Lib.hid hC
    clear HCH BY hB3 hP3 hgb3 hI hb3 hg4 hbY hb2 hS3 hC
    generalize w1.heap.size = Y at *
    clear w1
    generalize hN : (t1.opts s).length = N at *
    have HN := Lib.hid hN
    clear hN
    go_wp2_with fail
    go_loopw [20] (fun i wr => ∃ k : Nat, k ≤ N ∧ i = .int .i64 k ∧ WalkAt w wr S tb Y t1 us s tn g2 cap2 g4 (acc.add (sumO ((t1.opts s).take k) F)) ∧ w3.heap.size ≤ wr.heap.size) (fun i _ => N - (intOf i).toNat)
    case atStart => exact ⟨0, by omega, rfl, H0.ext (by rw [List.take_zero]; exact (Sm.add_zero ha).symm), Nat.le_refl _⟩
    case round =>
      clear H0
      obtain ⟨k, hk, rfl, H, hsz⟩ := hrel
      by_cases hlt : k < N
      · have hki : (k : Int) < (N : Int) := by omega
        obtain ⟨x, hx⟩ : ∃ x, (t1.opts s)[k]? = some x := ⟨(t1.opts s)[k]'(by rw [HN.out]; exact hlt), by simp⟩
        have hxm := List.mem_of_getElem? hx
        have hc := H.i.lies k x hx
        have HY := H.y
        have HTK := Lib.hid (sumO_take (t1.opts s) F k x hx)
        have hle := sumO_le (t1.opts s) F (k + 1)
        rw [HTK.out] at hle
        have hle2 : acc.plays + ((sumO ((t1.opts s).take k) F).plays + (F x).plays) ≤ 4398046511104 := by simp only [Sm.add] at hle; omega
        have hS5 : ∀ q, S q → q < wr.heap.size := fun q hq => by have := hS4 q hq; omega
        have HCO := Lib.hid (impl_choose S t1 hf1.1 us s x HNX.out hxm tn g2 cap2 wr htn H.t (by omega) hS5)
        have HREX := Lib.hid (HREC.out x hxm)
        have HFC := Lib.hid (HOL.out x hxm)
        have HTC : Hid (C (sumO ((t1.opts s).take k) F).ends) := sumO_c _ _ fun k hk => HOL.out k (List.mem_of_mem_take hk)
        clear hx hxm hle
        go_wp2_with (refine wp_load_Blk rfl _ _ rfl Y rfl HY hu rfl pl_i ?_)
        refine HCO.out.mono ?_
        rintro e w5 ⟨g5, cap5, he5, hP5, hb5⟩
        obtain ⟨kk, hkk⟩ : ∃ kk, ((t1.chose s x).2 ++ us).length = kk := ⟨_, rfl⟩
        rw [hkk] at he5
        subst he5
        have H5 := H.grown hb5
        have HW := HREX.out g5 cap5 kk w5 _ hkk hP5 H5.o (C.or ha HTC.out) (by simp only [Sm.add]; omega) (fun q hq => by have := hS5 q hq; have := hb5.size; omega)
        clear hkk hP5 HCO HREX HY hc
        go_wp2_with fail
        refine HW.mono ?_
        rintro e w6 ⟨rfl, hg6, hB6⟩
        have H6 := H5.walked hYt hg4t hSt hg6 hB6
        rw [Sm.add_assoc ha HTC.out HFC.out, ← HTK.out] at H6
        have hsz6 : w3.heap.size ≤ w6.heap.size := by have := hb5.size; have := hg6.size; omega
        clear HW H5 hg6 hB6 H hsz
        go_wp2_with fail
        go_roundw
        case rel => exact ⟨k + 1, by omega, by go_num, H6, hsz6⟩
        case measure => simp [intOf]; omega
      · have hke : k = N := by omega
        have e1 : sumO ((t1.opts s).take k) F = sumO (t1.opts s) F := by rw [hke, ← HN.out, List.take_length]
        rw [e1] at H
        clear hke e1
        go_wp2_with fail
        refine bodyPost_ret (results_none rfl _ _ _) rfl ⟨rfl, H.gb, H.o⟩
theorem impl_walk (S : Nat → Prop) (tb : Nat) (hSt : ¬ S tb) (f : Nat) : ∀ (s : Nat) (hs : s < 4) (ts : List Ct) (hf : FitC ts) (hl : Flat ts) (h1 : tot ts < f) (h2 : tot ts ≤ 20) (n : Nat) (hn : tot ts ≤ n) (hn2 : n ≤ 200) (g cap len : Nat) (hlen : ts.length = len) (acc : Sm) (hp : acc.plays + (allA f s ts).plays ≤ 4398046511104) (ha : C acc.ends) (w : World) (hT : AtP w S ts g cap) (hB : Blk w tb 96 acc.cel) (hS : ∀ q, S q → q < w.heap.size),
    Calls Try.prog 144 #[.pointer (some ⟨tb, 0, none⟩), .agg #[.int .i64 s, .slice (some ⟨g, 0, none⟩) len cap, .int .i64 ((200 - n : Nat))]] w (WalkEnd tb (acc.add (allA f s ts)) w) := by
  induction f with
  | zero => intro s hs ts hf hl h1; omega
  | succ f ih =>
    intro s hs ts hf hl h1 h2 n hn hn2 g cap len hlen acc hp ha w hT hB hS
    subst hlen
    have hle := len_tot ts
    have hfl := run_flat (s := s) (n := n) hf hl hn
    have hfl2 := hfl.2.2.2 200 (by omega)
    have hfr := fit_run0 (n := n) (s := s) hf
    have hfr2 := fit_run (n := n) (s := s) hf (by omega)
    have HR := fun (W : World) (hb : Below w.heap.size w W) => impl_fwd S n s hs hn2 ts hf (by omega) g cap W (hT.grown hb) (fun q hq => by have := hS q hq; have := hb.size; omega)
    have hm := run_le0 n s ts
    obtain ⟨⟨m, us, e⟩, hR⟩ : ∃ r, r = run n s ts := ⟨_, rfl⟩
    rw [← hR] at hfl hfr hfr2 HR hfl2 hm
    simp only at hfl2 hm
    by_cases he : e = .pick
    · subst he
      obtain ⟨t1, u, rfl, hnx, hne, hm1, _⟩ := run_pick hR.symm
      have hal : allA (f + 1) s ts = _ := all_pick (f := f) hfl2
      have hlt := hfl.1 t1 (by simp)
      have htt := hfl.2.1
      simp only [tot] at htt
      rw [hal]
      rw [hal] at hp
      refine impl_walkPick S tb acc ha s hs g cap ts.length _ (200 - m) (by omega) w t1 u (hfr t1 (by simp)) hnx (by have := hfr2.2; simp only [List.length_cons] at this; omega) _ hp (fun k hk => all_c f _ _ (chose_lt hs hk)) hB hS hSt (fun W hb => (HR W hb).mono fun e w' h => ?_) (fun k hk g3 cap3 kk W a hkk hP3 hB3 ha3 hp3 hS3 => ?_)
      · obtain ⟨h5, g2, cap2, h6, h7⟩ := h
        exact ⟨h5, g2, cap2, h6, h7⟩
      · have hc := chose_flat (hfr t1 (by simp)).1 hlt s k
        have hq : tot ((t1.chose s k).2 ++ u) + 1 + n ≤ tot ts + m := by rw [tot_app]; omega
        have e200 : 200 - m + 1 = 200 - (m - 1) := by omega
        rw [e200]
        exact ih _ (chose_lt hs hk) _ (fit_chose hfr s k).1 (hc.1.app hfl.1.tail) (by omega) (by omega) (m - 1) (by omega) (by omega) g3 cap3 kk hkk a hp3 ha3 W hP3 hB3 hS3
    · rw [all_leaf hfl2 he] at hp ⊢
      have h1p : (leafS e s).plays = 1 := by
        cases e with
        | broke a => cases a <;> rfl
        | _ => rfl
      refine impl_walkLeaf tb acc (by omega) ha e he hfl.2.2.1 s hs g cap ts.length _ w hB (fun W hb => (HR W hb).mono fun e' w' h => ?_)
      obtain ⟨h5, g2, cap2, h6, h7⟩ := h
      have hw : fwW (us, e) = ⟨#[]⟩ := by
        cases us with
        | nil => cases e <;> rfl
        | cons t us => cases e <;> first | exact absurd rfl he | rfl
      have h6' : e' = .returned (.tuple #[.agg #[.int .i64 s, .slice (some ⟨g2, 0, none⟩) us.length cap2, .int .i64 ((200 - m : Nat))], .string (fwW (us, e)), .string (fwE e)]) := h6
      rw [hw] at h6'
      exact ⟨h5, g2, cap2, _, _, h6'⟩
end Go.Proofs.Ytaeibhpkcikaaaa
