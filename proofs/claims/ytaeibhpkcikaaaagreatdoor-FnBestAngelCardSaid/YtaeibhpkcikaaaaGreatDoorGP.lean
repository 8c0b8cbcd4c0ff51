/- Plays: the program's plays. -/
import Derived.Test.YtaeibhpkcikaaaaGreatDoorImP4
import Derived.Test.YtaeibhpkcikaaaaGreatDoorGN
import Derived.IntWalk
/- ImP5 -/
namespace Go.Proofs.YtaeibhpkcikaaaaGreatDoor
set_option linter.unusedVariables false
set_option linter.unusedSimpArgs false
open Go.RowKit Go.Shelf
set_option maxRecDepth 100000
set_option maxHeartbeats 10000000

theorem impl_start (S : Nat → Prop) (t : Ct) (b : Nat) (s : Int) (w : World) (hT : Tree w S t b) (hS : ∀ q, S q → q < w.heap.size) : Calls Tryz.prog 25 #[.pointer (some ⟨b, 0, none⟩), .int .i64 s] w fun e w' =>
    ∃ g, e = .returned (.agg #[.int .i64 s, .slice (some ⟨g, 0, none⟩) 1 1, .int .i64 0]) ∧ AtP w' S [t] g 1 ∧ Below w.heap.size w w' := by
  obtain ⟨fs, hu⟩ := pl_u
  have hb := below_new (below_new (Below.refl w.heap.size w) (Obj.cells #[.int .i64 0, .slice none 0 0, .int .i64 0] 50)) (Obj.cells #[.pointer (some ⟨b, 0, none⟩)] 44)
  have HZ := (Blk.new w 50 #[.int .i64 0, .slice none 0 0, .int .i64 0]).old (Obj.cells #[.pointer (some ⟨b, 0, none⟩)] 44)
  have h0 := heap_alloc2_new w (Obj.cells #[.int .i64 0, .slice none 0 0, .int .i64 0] 50) (Obj.cells #[.pointer (some ⟨b, 0, none⟩)] 44)
  go_enter Tryz.func25, Tryz.ntmps25
  go_wp2_with (refine wp_store_Blk rfl _ _ _ rfl w.heap.size rfl rfl HZ pl_i rfl (by simp [Value.oneCell']) ?_)
  refine ret_Blk rfl w.heap.size rfl (HZ.setRow _) hu rfl pl_i rfl ⟨w.heap.size + 1, rfl, ⟨[b], ⟨fun j x hj => ?_⟩, ⟨?_, trivial⟩, Nat.le_refl _⟩, below_setRow hb (Nat.le_refl _) _⟩
  · match j, hj with
    | 0, hj =>
      simp at hj; subst hj
      refine cell_kept ?_ (setRow_other _ _ _ _ (by omega))
      rw [cell_of_row _ _ 0 _ _ _ h0]; rfl
    | j + 1, hj => simp at hj
  · have hT2 := Tree.grown hb t b hT
    exact Tree.kept (fun k hk hl => setRow_other _ _ _ _ (by have := hS _ hk; omega)) t b hT2

theorem impl_has (l : List Nat) (g cap : Nat) (n : Int) (w : World) (hI : Ints w g l) (hl : l.length ≤ 1000) :
    Calls Tryz.prog 70 #[.slice (some ⟨g, 0, none⟩) l.length cap, .int .i64 n] w fun e w' => e = .returned (.bool (l.any fun k => n == (k : Int))) ∧ w = w' := by
  go_enter Tryz.func70, Tryz.ntmps70
  go_wp2_with fail
  go_loop [9] (fun i => ∃ k : Nat, k ≤ l.length ∧ i = .int .i64 k ∧ Hid (∀ j x : Nat, l[j]? = some x → j < k → n ≠ (x : Int))) (fun i => l.length - (intOf i).toNat)
  case atStart => exact ⟨0, by omega, rfl, fun j x _ hj => by omega⟩
  case round =>
    obtain ⟨k, hk, rfl, H⟩ := hrel
    by_cases hlt : k < l.length
    · have hki : (k : Int) < (l.length : Nat) := by omega
      obtain ⟨x, hx⟩ : ∃ x, l[k]? = some x := ⟨l[k], by simp [hlt]⟩
      have hc := hI.lies k x hx
      have HX := Lib.hid hx
      clear hx
      by_cases he : n = (x : Int)
      · have e1 : ((x : Int) == n) = true := by rw [he]; simp
        have HE := Lib.hid he
        clear he
        go_wp2_with fail
        go_ret
        refine ⟨ret_bool ?_, rfl⟩
        symm
        rw [List.any_eq_true]
        exact ⟨x, List.mem_of_getElem? HX.out, by rw [HE.out]; simp⟩
      · have e1 : ((x : Int) == n) = false := by rw [beq_eq_false_iff_ne]; exact fun h => he h.symm
        have H2 : Hid (∀ j y : Nat, l[j]? = some y → j < k + 1 → n ≠ (y : Int)) := fun j y hj hjk => by
          rcases Nat.lt_or_ge j k with h | h
          · exact H.out j y hj h
          · obtain rfl : j = k := by omega
            have := HX.out.symm.trans hj
            cases this
            exact he
        clear he
        go_wp2_with fail
        go_round
        case rel => exact ⟨k + 1, by omega, by go_num, H2⟩
        case measure => simp [intOf]; omega
    · obtain rfl : k = l.length := by omega
      go_wp2_with fail
      go_ret
      refine ⟨ret_bool ?_, rfl⟩
      symm
      rw [List.any_eq_false]
      intro x hx
      obtain ⟨j, hj, rfl⟩ := List.getElem_of_mem hx
      have := H.out j l[j] (by simp [hj]) hj
      simpa using this

section
variable {P : Program} {a : Act} {w : World}
theorem ret_Blk4 {fn : Func} {R : Ending → World → Prop} {p u v x : Tmp} {ty : TypeId} (h : fn.results = #[.cell p ty, .tmp u, .tmp v, .tmp x]) (g : Nat) (hp : a.tmps.getD p undef = .pointer (some ⟨g, 0, none⟩)) {t : TypeId} {c : Array Value} {d : TypeDesc}
    (hg : Blk w g t c) (hu : P.underlying ty = some d) (hd : (match d with | .struct _ | .array _ _ => true | _ => false) = true) (hi : (P.info? ty).map (·.size) = some c.size)
    (hdef : a.defers = []) (hR : R (.returned (.tuple #[.agg c, a.tmps.getD u undef, a.tmps.getD v undef, a.tmps.getD x undef])) w) : bodyPost P fn R .ret a w := by
  refine bodyPost_ret (v := .tuple #[.agg c, a.tmps.getD u undef, a.tmps.getD v undef, a.tmps.getD x undef]) ?_ hdef hR
  have hp' : a.tmps[p]?.getD undef = .pointer (some ⟨g, 0, none⟩) := by simpa using hp
  simp only [results, h]
  simp [Sem.run_bind, Result.andThen, hp', asAddr, run_loadVar_row w g t ty c (0, 0) d hg.eq hu hd hi]
end
theorem run_le (n s : Nat) (ts : List Ct) : (run n s ts).1 ≤ n := by
  induction n generalizing ts with
  | zero => cases ts <;> exact Nat.le_refl _
  | succ n ih =>
    cases ts with
    | nil => exact Nat.le_refl _
    | cons t ts =>
      cases hn : t.next s with
      | go l => rw [run_go hn]; have := ih (l ++ ts); omega
      | stop a => rw [run_stop hn]; exact Nat.le_refl _
      | pick =>
        cases ho : (t.opts s).isEmpty
        · rw [run_pick2 hn ho]; exact Nat.le_refl _
        · rw [run_pick1 hn ho]; exact Nat.le_refl _
def IPlayEnd (S : Nat → Prop) (p : Spot) (w : World) (e : Ending) (w' : World) : Prop := Below w.heap.size w w' ∧
  ∃ g cap, e = .returned (.tuple #[.agg #[.int .i64 p.state, .slice (some ⟨g, 0, none⟩) p.todo.length cap, .int .i64 ((200 - p.left : Nat))], .int .i64 (p.used : Nat), .string (toldS p.how), .string (askW p)]) ∧ AtP w' S p.todo g cap
structure IPlay (w wr : World) (S : Nat → Prop) (S0 : Spot) (picks : ByteArray) (X n s : Nat) (ts : List Ct) (k g cap : Nat) : Prop where
  play : playA (picks.data.toList.drop k) n s ts k = S0
  hk : k ≤ picks.size
  hs : s < 4
  fit : FitC ts
  len : ts.length + n ≤ 1000
  hn : n ≤ 200
  hS : ∀ q, S q → q < w.heap.size
  hX : w.heap.size < X
  a : Blk wr X 50 #[.int .i64 s, .slice (some ⟨g, 0, none⟩) ts.length cap, .int .i64 ((200 - n : Nat))]
  z : Blk wr w.heap.size 50 #[.int .i64 0, .slice none 0 0, .int .i64 0]
  t : AtP wr S ts g cap
  b : Below w.heap.size w wr
/-- a run's end is laid into a place of its own -/
structure IMid (w wr : World) (S : Nat → Prop) (S0 : Spot) (picks : ByteArray) (X Y : Nat) (cx : Array Value) (n s : Nat) (ts : List Ct) (k m : Nat) (us : List Ct) (f : Fin) (g cap : Nat) : Prop where
  play : playA (picks.data.toList.drop k) n s ts k = S0
  run : run n s ts = (m, us, f)
  hk : k ≤ picks.size
  hs : s < 4
  fit : FitC us
  len : us.length + m ≤ 1000
  hm : m ≤ 200
  hS : ∀ q, S q → q < w.heap.size
  hX : w.heap.size < X
  hY : X < Y
  x : Blk wr X 50 cx
  y : Blk wr Y 50 #[.int .i64 s, .slice (some ⟨g, 0, none⟩) us.length cap, .int .i64 ((200 - m : Nat))]
  z : Blk wr w.heap.size 50 #[.int .i64 0, .slice none 0 0, .int .i64 0]
  t : AtP wr S us g cap
  b : Below w.heap.size w wr
theorem IMid.grown {w wr wr' : World} {S : Nat → Prop} {S0 : Spot} {picks : ByteArray} {X Y : Nat} {cx : Array Value} {n s : Nat} {ts : List Ct} {k m : Nat} {us : List Ct} {f : Fin} {g cap : Nat} (h : IMid w wr S S0 picks X Y cx n s ts k m us f g cap) (hb : Below wr.heap.size wr wr') : IMid w wr' S S0 picks X Y cx n s ts k m us f g cap :=
  ⟨h.play, h.run, h.hk, h.hs, h.fit, h.len, h.hm, h.hS, h.hX, h.hY, h.x.grown hb, h.y.grown hb, h.z.grown hb, h.t.grown hb, below_step h.b hb⟩
theorem IMid.done {w wr : World} {S : Nat → Prop} {S0 : Spot} {picks : ByteArray} {X Y : Nat} {cx : Array Value} {n s : Nat} {ts : List Ct} {k m : Nat} {us : List Ct} {f : Fin} {g cap : Nat} (h : IMid w wr S S0 picks X Y cx n s ts k m us f g cap) (st : Stand) (hS0 : S0 = ⟨m, s, us, k, st⟩) (T A : ByteArray) (hT : toldS st = T) (hA : askW ⟨m, s, us, k, st⟩ = A) :
    IPlayEnd S S0 w (.returned (.tuple #[.agg #[.int .i64 s, .slice (some ⟨g, 0, none⟩) us.length cap, .int .i64 ((200 - m : Nat))], .int .i64 (k : Nat), .string T, .string A])) (wr.setRow w.heap.size #[.int .i64 s, .slice (some ⟨g, 0, none⟩) us.length cap, .int .i64 ((200 - m : Nat))]) := by
  subst hS0; subst hT; subst hA
  exact ⟨below_setRow h.b (Nat.le_refl _) _, g, cap, rfl, h.t.setRow h.z (fun hq => by have := h.hS _ hq; omega) _⟩

theorem impl_has_opt (l : List Nat) (g cap : Nat) (c : UInt8) (w : World) (hI : Ints w g l) (hl : l.length ≤ 1000) :
    Calls Tryz.prog 70 #[.slice (some ⟨g, 0, none⟩) l.length cap, .int .i64 ((c.toNat : Int) - 48)] w fun e w' => e = .returned (.bool (isOpt l c)) ∧ w = w' := impl_has l g cap _ w hI hl
theorem IMid.next {w wr : World} {S : Nat → Prop} {S0 : Spot} {picks : ByteArray} {X Y : Nat} {cx : Array Value} {n s : Nat} {ts : List Ct} {k m : Nat} {t1 : Ct} {us1 : List Ct} {g cap : Nat} (h : IMid w wr S S0 picks X Y cx n s ts k m (t1 :: us1) .pick g cap) (h1 : 1 ≤ m) {d : Nat} (hd : d ∈ t1.opts s) (hlt : k < picks.size)
    (hS0 : S0 = playA (picks.data.toList.drop (k + 1)) (m - 1) (t1.chose s d).1 ((t1.chose s d).2 ++ us1) (k + 1)) {w2 : World} (hb : Below wr.heap.size wr w2) {g2 cap2 kk : Nat} (hP : AtP w2 S ((t1.chose s d).2 ++ us1) g2 cap2) (hk : ((t1.chose s d).2 ++ us1).length = kk) {v0 : Int} {p0 : Option Addr} {l0 c0 : Nat} {v2 : Int} (hcx : cx = #[.int .i64 v0, .slice p0 l0 c0, .int .i64 v2]) :
    IPlay w (w2.setRow X #[.int .i64 ((t1.chose s d).1 : Nat), .slice (some ⟨g2, 0, none⟩) kk cap2, .int .i64 ((200 - (m - 1) : Nat))]) S S0 picks X (m - 1) (t1.chose s d).1 ((t1.chose s d).2 ++ us1) (k + 1) g2 cap2 := by
  subst hcx; subst hk
  have hF := fit_chose h.fit s d
  have hl := h.len
  have hm := h.hm
  have hX := h.hX
  have hF2 := hF.2
  have HX := h.x.grown hb
  simp only [List.length_cons] at hl
  exact ⟨hS0.symm, by omega, chose_lt h.hs hd, hF.1, by rw [List.length_append]; omega, by omega, h.hS, h.hX, HX.setRow _, (h.z.grown hb).setRowOther _ _ (by omega), hP.setRow HX (fun hq => by have := h.hS _ hq; omega) _, below_setRow (below_step h.b hb) (by omega) _⟩

theorem impl_play (S : Nat → Prop) (t : Ct) (ht : t.WF) (hlen : t.len ≤ 200) (b : Nat) (s : Nat) (hs : s < 4) (picks : ByteArray) (hp : picks.size ≤ 4611686018427387904) (w : World) (hT : Tree w S t b) (hS : ∀ q, S q → q < w.heap.size) :
    Calls Tryz.prog 40 #[.pointer (some ⟨b, 0, none⟩), .int .i64 s, .string picks] w (IPlayEnd S (t.play s picks.data.toList) w) := by
  obtain ⟨fs, hu⟩ := pl_u
  have hb0 := below_new (Below.refl w.heap.size w) (Obj.cells #[.int .i64 0, .slice none 0 0, .int .i64 0] 50)
  have hST := impl_start S t b s _ (Tree.grown hb0 t b hT) (fun q hq => by have := hS q hq; simp; omega)
  have HZ0 := Blk.new w 50 #[.int .i64 0, .slice none 0 0, .int .i64 0]
  go_enter Tryz.func40, Tryz.ntmps40
  go_wp2_with fail
  refine hST.mono ?_
  rintro e w1 ⟨g, rfl, hP1, hb1⟩
  have H0 : IPlay w (w1.alloc (Obj.cells #[.int .i64 s, .slice (some ⟨g, 0, none⟩) 1 1, .int .i64 0] 50)) S (t.play s picks.data.toList) picks w1.heap.size 200 s [t] 0 g 1 :=
    ⟨rfl, Nat.zero_le _, hs, fit_one ht hlen, by simp, by omega, hS, by have := hb1.size; simp at this; omega, Blk.new w1 _ _, (HZ0.grown hb1).old _, hP1.grown (below_new (Below.refl _ _) _), below_new (below_step hb0 hb1) _⟩
  generalize hS0 : t.play s picks.data.toList = S0 at *
  clear hS0 hST HZ0 hb0 hb1 hP1 hT
  go_wp2_with (refine wp_store_BlkNew rfl _ _ _ rfl rfl rfl pl_i rfl (by simp [Value.oneCell']) ?_)
  generalize w1.heap.size = X at *
  go_loopw [11] (fun u wr => ∃ (n s' : Nat) (ts : List Ct) (k g cap : Nat), u = .int .i64 k ∧ IPlay w wr S S0 picks X n s' ts k g cap) (fun u _ => picks.size + 1 - (intOf u).toNat)
  case atStart => exact ⟨200, s, [t], 0, _, _, rfl, H0⟩
  case round =>
    clear H0 hs hS
    obtain ⟨n, s', ts', k, g, cap, rfl, H⟩ := hrel
    have HX := H.a
    have hXX := H.hX
    go_wp2_with (refine wp_load_Blk rfl _ _ rfl X rfl HX hu rfl pl_i ?_)
    refine (impl_fwd S n s' H.hs H.hn ts' H.fit H.len g cap wr H.t (fun q hq => by have := H.hS q hq; have := H.b.size; omega)).mono ?_
    rintro e w2 ⟨hb2, g2, cap2, he, hP2⟩
    have HFR := fit_run (s := s') H.fit H.len
    have HRL := run_le n s' ts'
    obtain ⟨⟨m, us, f⟩, hR⟩ : ∃ r, r = run n s' ts' := ⟨_, rfl⟩
    rw [← hR] at hP2 HFR he HRL
    have he2 : e = .returned (.tuple #[.agg #[.int .i64 s', .slice (some ⟨g2, 0, none⟩) us.length cap2, .int .i64 ((200 - m : Nat))], .string (fwW (us, f)), .string (fwE f)]) := he
    subst he2
    clear he
    have hXl := (HX.grown hb2).lt
    have HMID : IMid w (w2.alloc (Obj.cells #[.int .i64 s', .slice (some ⟨g2, 0, none⟩) us.length cap2, .int .i64 ((200 - m : Nat))] 50)) S S0 picks X w2.heap.size _ n s' ts' k m us f g2 cap2 :=
      ⟨H.play, hR.symm, H.hk, H.hs, HFR.1, HFR.2, by have := H.hn; simp only at HRL; omega, H.hS, H.hX, hXl, (HX.grown hb2).old _, Blk.new w2 _ _, (H.z.grown hb2).old _, hP2.grown (below_new (Below.refl _ _) _), below_new (below_step H.b hb2) _⟩
    clear hR H HX hP2 HFR HRL hb2
    have HY := HMID.y
    have HZ := HMID.z
    by_cases hpk : f = .pick
    · subst hpk
      obtain ⟨t1, us1, rfl, hnx, hne, hm1, hm2⟩ := run_pick HMID.run
      have HWN : Hid (fwW (t1 :: us1, .pick) = whoN t1.who) := rfl
      simp only [List.length_cons] at HY HZ
      cases hwho : t1.who
      all_goals
        first
        | rw [HWN.out, hwho, show fwE .pick = ⟨#[]⟩ from rfl, show whoN false = ⟨#[100, 101, 109, 111, 110]⟩ from rfl]
        | rw [HWN.out, hwho, show fwE .pick = ⟨#[]⟩ from rfl, show whoN true = ⟨#[97, 110, 103, 101, 108]⟩ from rfl]
        simp only [List.length_cons] at HMID ⊢
      · by_cases hkk : k = picks.size
        · have hS1 := play_asks HMID.run k
          rw [← drop_end picks, ← hkk, HMID.play] at hS1
          have HD := HMID.done .asks hS1 ⟨#[97, 115, 107, 115]⟩ ⟨#[100, 101, 109, 111, 110]⟩ rfl (by show whoN t1.who = _; rw [hwho]; rfl)
          have hki : ((k : Int) == (picks.size : Int)) = true := by rw [hkk]; simp
          simp only [List.length_cons] at HD
          clear HMID hkk hS1 hnx hne hwho
          go_wp2_with (first
            | (refine wp_store_BlkNew rfl _ _ _ rfl rfl rfl pl_i rfl (by simp [Value.oneCell']) ?_)
            | (refine wp_store_Blk rfl _ _ _ rfl w.heap.size rfl rfl HZ pl_i rfl (by simp [Value.oneCell']) ?_)
            | (refine wp_load_Blk rfl _ _ rfl w2.heap.size rfl HY hu rfl pl_i ?_))
          exact ret_Blk4 rfl w.heap.size rfl (HZ.setRow _) hu rfl pl_i rfl HD
        · have hlt : k < picks.size := by have := HMID.hk; omega
          have hki : ((k : Int) == (picks.size : Int)) = false := by rw [beq_eq_false_iff_ne]; omega
          have hli : (k : Int) < (picks.size : Int) := by omega
          have hdr := drop_at picks k hlt
          have HDR := Lib.hid hdr
          have hcb : (bt picks k).toNat < 256 := (bt picks k).toNat_lt
          have hwr : IntKind.i64.wrap (((bt picks k).toNat : Int) - 48) = ((bt picks k).toNat : Int) - 48 := IntWalk.i64_in _ (by omega)
          have hw2 : IntKind.i64.wrap ((bt picks k).toNat : Int) = ((bt picks k).toNat : Int) := IntWalk.i64_in _ (by omega)
          have hfit := HMID.fit t1 (by simp)
          have hlen1 := HMID.len
          have hmm := HMID.hm
          have hYX := HMID.hY
          have hol := opts_le t1 s'
          simp only [List.length_cons] at hlen1
          clear hdr hkk hwho
          go_wp2_with (refine wp_store_BlkNew rfl _ _ _ rfl rfl rfl pl_i rfl (by simp [Value.oneCell']) ?_)
          generalize w2.alloc (Obj.cells #[.int .i64 s', .slice (some ⟨g2, 0, none⟩) (us1.length + 1) cap2, .int .i64 ((200 - m : Nat))] 50) = w3 at *
          generalize w2.heap.size = Y at *
          refine wp_region_held_drew (S := fun W => Below w3.heap.size w3 W) (by kernel_rfl) ?_ (fun hS => ?_)
          · exact (Below.refl _ _).drew
          refine wpAnyH_take (i := 0) (v := .agg #[.int .i64 s', .slice (some ⟨g2, 0, none⟩) (us1.length + 1) cap2, .int .i64 ((200 - m : Nat))]) rfl (by kernel_rfl) (by kernel_rfl) (by kernel_rfl) (fun _ _ _ h => h) (yields_Blk (by rfl) _ _ rfl Y rfl (fun _ h => HY.grown h) hu rfl pl_i) hS ?_
          simp only [Act.put, List.getElem_toArray, List.getElem_cons_succ, List.getElem_cons_zero, List.setIfInBounds_toArray, List.set_cons_zero, List.set_cons_succ]
          refine wpAnyH_take (i := 2) (v := .string picks) rfl (by kernel_rfl) (by kernel_rfl) (by kernel_rfl) (fun _ _ _ h => h) (Or.inl ⟨by rfl, ?_⟩) hS ?_
          · intro w hSw
            go_simp
          simp only [Act.put, List.getElem_toArray, List.getElem_cons_succ, List.getElem_cons_zero, List.setIfInBounds_toArray, List.set_cons_zero, List.set_cons_succ]
          refine wpAnyH_take (i := 3) (v := .int .i64 k) rfl (by kernel_rfl) (by kernel_rfl) (by kernel_rfl) (fun _ _ _ h => h) (Or.inl ⟨by rfl, ?_⟩) hS ?_
          · intro w hSw
            go_simp
          simp only [Act.put, List.getElem_toArray, List.getElem_cons_succ, List.getElem_cons_zero, List.setIfInBounds_toArray, List.set_cons_zero, List.set_cons_succ]
          refine wpAnyH_take (i := 4) (v := .int .u8 ((bt picks k).toNat : Int)) rfl (by kernel_rfl) (by kernel_rfl) (by kernel_rfl) (fun _ _ _ h => h) (Or.inl ⟨by rfl, ?_⟩) hS ?_
          · intro w hSw
            go_simp
          simp only [Act.put, List.getElem_toArray, List.getElem_cons_succ, List.getElem_cons_zero, List.setIfInBounds_toArray, List.set_cons_zero, List.set_cons_succ]
          refine wpAnyH_take (i := 5) (v := .int .i64 ((bt picks k).toNat : Int)) rfl (by kernel_rfl) (by kernel_rfl) (by kernel_rfl) (fun _ _ _ h => h) (Or.inl ⟨by rfl, ?_⟩) hS ?_
          · intro w hSw
            go_simp
          simp only [Act.put, List.getElem_toArray, List.getElem_cons_succ, List.getElem_cons_zero, List.setIfInBounds_toArray, List.set_cons_zero, List.set_cons_succ]
          refine wpAnyH_take (i := 6) (v := .int .i64 (((bt picks k).toNat : Int) - 48)) rfl (by kernel_rfl) (by kernel_rfl) (by kernel_rfl) (fun _ _ _ h => h) (Or.inl ⟨by rfl, ?_⟩) hS ?_
          · intro w hSw
            go_simp
          simp only [Act.put, List.getElem_toArray, List.getElem_cons_succ, List.getElem_cons_zero, List.setIfInBounds_toArray, List.set_cons_zero, List.set_cons_succ]
          refine wpAnyH_ready (rs := [1]) (by kernel_rfl) (by simp) ?_
          refine AllReadyH.cons rfl (fun K hK => ?_) AllReadyH.nil
          rw [if_pos (by rfl)]
          refine op_call 27 _ _ rfl (enters_of Tryz.func27 (by kernel_rfl) rfl) _ (impl_choices S t1 hfit.1 us1 s' HMID.hs hnx (200 - m) g2 cap2 _ (HMID.t.grown hS) (by omega)) rfl ?_
          rintro e w4 ⟨g4, cap4, rfl, hI4, hb4, -⟩
          refine ⟨_, rfl, ?_⟩
          have hS2 := below_step hS hb4
          refine hK.out _ _ hS2 (fun hS1 => ?_)
          clear hK K hS hS2
          replace hS := hS1
          clear hS1
          simp only [Act.put, List.getElem_toArray, List.getElem_cons_succ, List.getElem_cons_zero, List.setIfInBounds_toArray, List.set_cons_zero, List.set_cons_succ]
          refine wpAnyH_ready (rs := [7]) (by kernel_rfl) (by simp) ?_
          refine AllReadyH.cons rfl (fun K hK => ?_) AllReadyH.nil
          rw [if_pos (by rfl)]
          refine op_call 70 _ _ rfl (enters_of Tryz.func70 (by kernel_rfl) rfl) _ (impl_has_opt _ g4 cap4 _ _ hI4 (by omega)) rfl ?_
          rintro e w5 ⟨rfl, rfl⟩
          refine ⟨_, rfl, ?_⟩
          refine hK.out _ _ ?_ (fun hS1 => ?_)
          · exact hS
          clear hK K
          replace hS := hS1
          clear hS1
          simp only [Act.put, List.getElem_toArray, List.getElem_cons_succ, List.getElem_cons_zero, List.setIfInBounds_toArray, List.set_cons_zero, List.set_cons_succ]
          have HMID3 := HMID.grown hS
          clear HMID HY HZ hI4 hb4
          cases hio : isOpt (t1.opts s') (bt picks k)
          · have hS0 := play_bad HMID3.run hio (picks.data.toList.drop (k + 1)) k
            rw [← HDR.out, HMID3.play] at hS0
            have HD := HMID3.done .bad hS0 ⟨#[98, 97, 100]⟩ ⟨#[]⟩ rfl rfl
            refine wpAnyH_take (i := 8) (v := .bool true) rfl (by kernel_rfl) (by kernel_rfl) (by kernel_rfl) (fun _ _ _ h => h) (Or.inl ⟨by rfl, ?_⟩) hS ?_
            · intro w hSw
              go_simp
            simp only [Act.put, List.getElem_toArray, List.getElem_cons_succ, List.getElem_cons_zero, List.setIfInBounds_toArray, List.set_cons_zero, List.set_cons_succ]
            refine wpAnyH_take (i := 9) (v := .bool true) rfl (by kernel_rfl) (by kernel_rfl) (by kernel_rfl) (fun _ _ _ h => h) (Or.inl ⟨by rfl, ?_⟩) hS ?_
            · intro w hSw
              go_simp
            simp only [Act.put, List.getElem_toArray, List.getElem_cons_succ, List.getElem_cons_zero, List.setIfInBounds_toArray, List.set_cons_zero, List.set_cons_succ]
            refine wpAnyH_done (by kernel_rfl) ?_ _
            have HY := HMID3.y
            have HZ := HMID3.z
            simp only [List.length_cons] at HD HY
            clear HMID3 hS0 hio
            go_wp2_with (first
              | (refine wp_store_Blk rfl _ _ _ rfl w.heap.size rfl rfl HZ pl_i rfl (by simp [Value.oneCell']) ?_)
              | (refine wp_load_Blk rfl _ _ rfl Y rfl HY hu rfl pl_i ?_))
            exact ret_Blk4 rfl w.heap.size rfl (HZ.setRow _) hu rfl pl_i rfl HD
          · obtain ⟨d, hd, hcd⟩ := isOpt_iff.1 hio
            have hS0 := play_on HMID3.run hd hcd (picks.data.toList.drop (k + 1)) k
            rw [← HDR.out, HMID3.play] at hS0
            have HS0 := Lib.hid hS0
            refine wpAnyH_take (i := 8) (v := .bool false) rfl (by kernel_rfl) (by kernel_rfl) (by kernel_rfl) (fun _ _ _ h => h) (Or.inl ⟨by rfl, ?_⟩) hS ?_
            · intro w hSw
              go_simp
            simp only [Act.put, List.getElem_toArray, List.getElem_cons_succ, List.getElem_cons_zero, List.setIfInBounds_toArray, List.set_cons_zero, List.set_cons_succ]
            refine wpAnyH_take (i := 9) (v := .bool false) rfl (by kernel_rfl) (by kernel_rfl) (by kernel_rfl) (fun _ _ _ h => h) (Or.inl ⟨by rfl, ?_⟩) hS ?_
            · intro w hSw
              go_simp
            simp only [Act.put, List.getElem_toArray, List.getElem_cons_succ, List.getElem_cons_zero, List.setIfInBounds_toArray, List.set_cons_zero, List.set_cons_succ]
            refine wpAnyH_done (by kernel_rfl) ?_ _
            have HHD := Lib.hid hd
            have HCD := Lib.hid hcd
            have HY := HMID3.y
            simp only [List.length_cons] at HY
            clear hio hS0 hd hcd
            go_wp2_with fail
            refine wp_region_held_drew (S := fun _ => True) (by kernel_rfl) ?_ (fun hS => ?_)
            · exact trivial
            refine wpAnyH_take (i := 1) (v := .string picks) rfl (by kernel_rfl) (by kernel_rfl) (by kernel_rfl) (fun _ _ _ h => h) (Or.inl ⟨by rfl, ?_⟩) hS ?_
            · intro w hSw
              go_simp
            simp only [Act.put, List.getElem_toArray, List.getElem_cons_succ, List.getElem_cons_zero, List.setIfInBounds_toArray, List.set_cons_zero, List.set_cons_succ]
            refine wpAnyH_take (i := 2) (v := .int .i64 k) rfl (by kernel_rfl) (by kernel_rfl) (by kernel_rfl) (fun _ _ _ h => h) (Or.inl ⟨by rfl, ?_⟩) hS ?_
            · intro w hSw
              go_simp
            simp only [Act.put, List.getElem_toArray, List.getElem_cons_succ, List.getElem_cons_zero, List.setIfInBounds_toArray, List.set_cons_zero, List.set_cons_succ]
            refine wpAnyH_take (i := 3) (v := .int .u8 ((bt picks k).toNat : Int)) rfl (by kernel_rfl) (by kernel_rfl) (by kernel_rfl) (fun _ _ _ h => h) (Or.inl ⟨by rfl, ?_⟩) hS ?_
            · intro w hSw
              go_simp
            simp only [Act.put, List.getElem_toArray, List.getElem_cons_succ, List.getElem_cons_zero, List.setIfInBounds_toArray, List.set_cons_zero, List.set_cons_succ]
            refine wpAnyH_take (i := 4) (v := .int .i64 ((bt picks k).toNat : Int)) rfl (by kernel_rfl) (by kernel_rfl) (by kernel_rfl) (fun _ _ _ h => h) (Or.inl ⟨by rfl, ?_⟩) hS ?_
            · intro w hSw
              go_simp
            simp only [Act.put, List.getElem_toArray, List.getElem_cons_succ, List.getElem_cons_zero, List.setIfInBounds_toArray, List.set_cons_zero, List.set_cons_succ]
            refine wpAnyH_take (i := 5) (v := .int .i64 (((bt picks k).toNat : Int) - 48)) rfl (by kernel_rfl) (by kernel_rfl) (by kernel_rfl) (fun _ _ _ h => h) (Or.inl ⟨by rfl, ?_⟩) hS ?_
            · intro w hSw
              go_simp
            simp only [Act.put, List.getElem_toArray, List.getElem_cons_succ, List.getElem_cons_zero, List.setIfInBounds_toArray, List.set_cons_zero, List.set_cons_succ]
            have hcd2 : ((bt picks k).toNat : Int) - 48 = (d : Int) := HCD.out
            rw [hcd2]
            clear hcd2
            have hbd : Below w4.heap.size w4 w4.drew := (Below.refl _ _).drew
            have HY4 := HY.drew
            have hPC := HMID3.t.drew
            have hSW : ∀ q, S q → q < w4.drew.heap.size := fun q hq => by have := HMID3.hS q hq; have := HMID3.b.drew.size; omega
            generalize w4.drew = w6 at *
            refine wpAnyH_ready (rs := [0]) (by kernel_rfl) (by simp) ?_
            refine AllReadyH.cons rfl (fun K hK => ?_) AllReadyH.nil
            rw [if_pos (by rfl)]
            refine op_load_Blk _ _ rfl Y rfl HY4 hu rfl pl_i ?_
            refine hK.out _ _ trivial (fun _ => ?_)
            clear hK K
            simp only [Act.put, List.getElem_toArray, List.getElem_cons_succ, List.getElem_cons_zero, List.setIfInBounds_toArray, List.set_cons_zero, List.set_cons_succ]
            refine wpAnyH_ready (rs := [6]) (by kernel_rfl) (by simp) ?_
            refine AllReadyH.cons rfl (fun K hK => ?_) AllReadyH.nil
            rw [if_pos (by rfl)]
            refine op_call 28 _ _ rfl (enters_of Tryz.func28 (by kernel_rfl) rfl) _ (impl_choose S t1 hfit.1 us1 s' d hnx HHD.out (200 - m) g2 cap2 _ (by omega) hPC (by omega) hSW) rfl ?_
            rintro e w7 ⟨g5, cap5, he5, hP5, hb5⟩
            have e200 : 200 - m + 1 = 200 - (m - 1) := by omega
            obtain ⟨kk, hkk⟩ : ∃ kk, ((t1.chose s' d).2 ++ us1).length = kk := ⟨_, rfl⟩
            rw [hkk, e200] at he5
            subst he5
            refine ⟨_, rfl, ?_⟩
            refine hK.out _ _ trivial (fun _ => ?_)
            clear hK K
            simp only [Act.put, List.getElem_toArray, List.getElem_cons_succ, List.getElem_cons_zero, List.setIfInBounds_toArray, List.set_cons_zero, List.set_cons_succ]
            refine wpAnyH_ready (rs := [7]) (by kernel_rfl) (by simp) ?_
            refine AllReadyH.cons rfl (fun K hK => ?_) AllReadyH.nil
            rw [if_pos (by rfl)]
            have HX5 := HMID3.x.grown (below_step hbd hb5)
            have HR := HMID3.next hm1 HHD.out hlt HS0.out (below_step hbd hb5) hP5 hkk rfl
            refine op_store_Blk _ _ _ rfl X rfl rfl HX5 pl_i rfl (by simp [Value.oneCell']) ?_
            refine hK.out _ _ trivial (fun _ => ?_)
            clear hK K
            simp only [Act.put, List.getElem_toArray, List.getElem_cons_succ, List.getElem_cons_zero, List.setIfInBounds_toArray, List.set_cons_zero, List.set_cons_succ]
            refine wpAnyH_done (by kernel_rfl) ?_ _
            clear HMID3 HY HY4 hPC hP5 HHD HCD HS0 HX5 hkk e200
            go_wp2_with fail
            go_roundw
            case rel => exact ⟨m - 1, _, _, k + 1, g5, cap5, by go_num, HR⟩
            case measure => simp [intOf]; omega
      · by_cases hkk : k = picks.size
        · have hS1 := play_asks HMID.run k
          rw [← drop_end picks, ← hkk, HMID.play] at hS1
          have HD := HMID.done .asks hS1 ⟨#[97, 115, 107, 115]⟩ ⟨#[97, 110, 103, 101, 108]⟩ rfl (by show whoN t1.who = _; rw [hwho]; rfl)
          have hki : ((k : Int) == (picks.size : Int)) = true := by rw [hkk]; simp
          simp only [List.length_cons] at HD
          clear HMID hkk hS1 hnx hne hwho
          go_wp2_with (first
            | (refine wp_store_BlkNew rfl _ _ _ rfl rfl rfl pl_i rfl (by simp [Value.oneCell']) ?_)
            | (refine wp_store_Blk rfl _ _ _ rfl w.heap.size rfl rfl HZ pl_i rfl (by simp [Value.oneCell']) ?_)
            | (refine wp_load_Blk rfl _ _ rfl w2.heap.size rfl HY hu rfl pl_i ?_))
          exact ret_Blk4 rfl w.heap.size rfl (HZ.setRow _) hu rfl pl_i rfl HD
        · have hlt : k < picks.size := by have := HMID.hk; omega
          have hki : ((k : Int) == (picks.size : Int)) = false := by rw [beq_eq_false_iff_ne]; omega
          have hli : (k : Int) < (picks.size : Int) := by omega
          have hdr := drop_at picks k hlt
          have HDR := Lib.hid hdr
          have hcb : (bt picks k).toNat < 256 := (bt picks k).toNat_lt
          have hwr : IntKind.i64.wrap (((bt picks k).toNat : Int) - 48) = ((bt picks k).toNat : Int) - 48 := IntWalk.i64_in _ (by omega)
          have hw2 : IntKind.i64.wrap ((bt picks k).toNat : Int) = ((bt picks k).toNat : Int) := IntWalk.i64_in _ (by omega)
          have hfit := HMID.fit t1 (by simp)
          have hlen1 := HMID.len
          have hmm := HMID.hm
          have hYX := HMID.hY
          have hol := opts_le t1 s'
          simp only [List.length_cons] at hlen1
          clear hdr hkk hwho
          go_wp2_with (refine wp_store_BlkNew rfl _ _ _ rfl rfl rfl pl_i rfl (by simp [Value.oneCell']) ?_)
          generalize w2.alloc (Obj.cells #[.int .i64 s', .slice (some ⟨g2, 0, none⟩) (us1.length + 1) cap2, .int .i64 ((200 - m : Nat))] 50) = w3 at *
          generalize w2.heap.size = Y at *
          refine wp_region_held_drew (S := fun W => Below w3.heap.size w3 W) (by kernel_rfl) ?_ (fun hS => ?_)
          · exact (Below.refl _ _).drew
          refine wpAnyH_take (i := 0) (v := .agg #[.int .i64 s', .slice (some ⟨g2, 0, none⟩) (us1.length + 1) cap2, .int .i64 ((200 - m : Nat))]) rfl (by kernel_rfl) (by kernel_rfl) (by kernel_rfl) (fun _ _ _ h => h) (yields_Blk (by rfl) _ _ rfl Y rfl (fun _ h => HY.grown h) hu rfl pl_i) hS ?_
          simp only [Act.put, List.getElem_toArray, List.getElem_cons_succ, List.getElem_cons_zero, List.setIfInBounds_toArray, List.set_cons_zero, List.set_cons_succ]
          refine wpAnyH_take (i := 2) (v := .string picks) rfl (by kernel_rfl) (by kernel_rfl) (by kernel_rfl) (fun _ _ _ h => h) (Or.inl ⟨by rfl, ?_⟩) hS ?_
          · intro w hSw
            go_simp
          simp only [Act.put, List.getElem_toArray, List.getElem_cons_succ, List.getElem_cons_zero, List.setIfInBounds_toArray, List.set_cons_zero, List.set_cons_succ]
          refine wpAnyH_take (i := 3) (v := .int .i64 k) rfl (by kernel_rfl) (by kernel_rfl) (by kernel_rfl) (fun _ _ _ h => h) (Or.inl ⟨by rfl, ?_⟩) hS ?_
          · intro w hSw
            go_simp
          simp only [Act.put, List.getElem_toArray, List.getElem_cons_succ, List.getElem_cons_zero, List.setIfInBounds_toArray, List.set_cons_zero, List.set_cons_succ]
          refine wpAnyH_take (i := 4) (v := .int .u8 ((bt picks k).toNat : Int)) rfl (by kernel_rfl) (by kernel_rfl) (by kernel_rfl) (fun _ _ _ h => h) (Or.inl ⟨by rfl, ?_⟩) hS ?_
          · intro w hSw
            go_simp
          simp only [Act.put, List.getElem_toArray, List.getElem_cons_succ, List.getElem_cons_zero, List.setIfInBounds_toArray, List.set_cons_zero, List.set_cons_succ]
          refine wpAnyH_take (i := 5) (v := .int .i64 ((bt picks k).toNat : Int)) rfl (by kernel_rfl) (by kernel_rfl) (by kernel_rfl) (fun _ _ _ h => h) (Or.inl ⟨by rfl, ?_⟩) hS ?_
          · intro w hSw
            go_simp
          simp only [Act.put, List.getElem_toArray, List.getElem_cons_succ, List.getElem_cons_zero, List.setIfInBounds_toArray, List.set_cons_zero, List.set_cons_succ]
          refine wpAnyH_take (i := 6) (v := .int .i64 (((bt picks k).toNat : Int) - 48)) rfl (by kernel_rfl) (by kernel_rfl) (by kernel_rfl) (fun _ _ _ h => h) (Or.inl ⟨by rfl, ?_⟩) hS ?_
          · intro w hSw
            go_simp
          simp only [Act.put, List.getElem_toArray, List.getElem_cons_succ, List.getElem_cons_zero, List.setIfInBounds_toArray, List.set_cons_zero, List.set_cons_succ]
          refine wpAnyH_ready (rs := [1]) (by kernel_rfl) (by simp) ?_
          refine AllReadyH.cons rfl (fun K hK => ?_) AllReadyH.nil
          rw [if_pos (by rfl)]
          refine op_call 27 _ _ rfl (enters_of Tryz.func27 (by kernel_rfl) rfl) _ (impl_choices S t1 hfit.1 us1 s' HMID.hs hnx (200 - m) g2 cap2 _ (HMID.t.grown hS) (by omega)) rfl ?_
          rintro e w4 ⟨g4, cap4, rfl, hI4, hb4, -⟩
          refine ⟨_, rfl, ?_⟩
          have hS2 := below_step hS hb4
          refine hK.out _ _ hS2 (fun hS1 => ?_)
          clear hK K hS hS2
          replace hS := hS1
          clear hS1
          simp only [Act.put, List.getElem_toArray, List.getElem_cons_succ, List.getElem_cons_zero, List.setIfInBounds_toArray, List.set_cons_zero, List.set_cons_succ]
          refine wpAnyH_ready (rs := [7]) (by kernel_rfl) (by simp) ?_
          refine AllReadyH.cons rfl (fun K hK => ?_) AllReadyH.nil
          rw [if_pos (by rfl)]
          refine op_call 70 _ _ rfl (enters_of Tryz.func70 (by kernel_rfl) rfl) _ (impl_has_opt _ g4 cap4 _ _ hI4 (by omega)) rfl ?_
          rintro e w5 ⟨rfl, rfl⟩
          refine ⟨_, rfl, ?_⟩
          refine hK.out _ _ ?_ (fun hS1 => ?_)
          · exact hS
          clear hK K
          replace hS := hS1
          clear hS1
          simp only [Act.put, List.getElem_toArray, List.getElem_cons_succ, List.getElem_cons_zero, List.setIfInBounds_toArray, List.set_cons_zero, List.set_cons_succ]
          have HMID3 := HMID.grown hS
          clear HMID HY HZ hI4 hb4
          cases hio : isOpt (t1.opts s') (bt picks k)
          · have hS0 := play_bad HMID3.run hio (picks.data.toList.drop (k + 1)) k
            rw [← HDR.out, HMID3.play] at hS0
            have HD := HMID3.done .bad hS0 ⟨#[98, 97, 100]⟩ ⟨#[]⟩ rfl rfl
            refine wpAnyH_take (i := 8) (v := .bool true) rfl (by kernel_rfl) (by kernel_rfl) (by kernel_rfl) (fun _ _ _ h => h) (Or.inl ⟨by rfl, ?_⟩) hS ?_
            · intro w hSw
              go_simp
            simp only [Act.put, List.getElem_toArray, List.getElem_cons_succ, List.getElem_cons_zero, List.setIfInBounds_toArray, List.set_cons_zero, List.set_cons_succ]
            refine wpAnyH_take (i := 9) (v := .bool true) rfl (by kernel_rfl) (by kernel_rfl) (by kernel_rfl) (fun _ _ _ h => h) (Or.inl ⟨by rfl, ?_⟩) hS ?_
            · intro w hSw
              go_simp
            simp only [Act.put, List.getElem_toArray, List.getElem_cons_succ, List.getElem_cons_zero, List.setIfInBounds_toArray, List.set_cons_zero, List.set_cons_succ]
            refine wpAnyH_done (by kernel_rfl) ?_ _
            have HY := HMID3.y
            have HZ := HMID3.z
            simp only [List.length_cons] at HD HY
            clear HMID3 hS0 hio
            go_wp2_with (first
              | (refine wp_store_Blk rfl _ _ _ rfl w.heap.size rfl rfl HZ pl_i rfl (by simp [Value.oneCell']) ?_)
              | (refine wp_load_Blk rfl _ _ rfl Y rfl HY hu rfl pl_i ?_))
            exact ret_Blk4 rfl w.heap.size rfl (HZ.setRow _) hu rfl pl_i rfl HD
          · obtain ⟨d, hd, hcd⟩ := isOpt_iff.1 hio
            have hS0 := play_on HMID3.run hd hcd (picks.data.toList.drop (k + 1)) k
            rw [← HDR.out, HMID3.play] at hS0
            have HS0 := Lib.hid hS0
            refine wpAnyH_take (i := 8) (v := .bool false) rfl (by kernel_rfl) (by kernel_rfl) (by kernel_rfl) (fun _ _ _ h => h) (Or.inl ⟨by rfl, ?_⟩) hS ?_
            · intro w hSw
              go_simp
            simp only [Act.put, List.getElem_toArray, List.getElem_cons_succ, List.getElem_cons_zero, List.setIfInBounds_toArray, List.set_cons_zero, List.set_cons_succ]
            refine wpAnyH_take (i := 9) (v := .bool false) rfl (by kernel_rfl) (by kernel_rfl) (by kernel_rfl) (fun _ _ _ h => h) (Or.inl ⟨by rfl, ?_⟩) hS ?_
            · intro w hSw
              go_simp
            simp only [Act.put, List.getElem_toArray, List.getElem_cons_succ, List.getElem_cons_zero, List.setIfInBounds_toArray, List.set_cons_zero, List.set_cons_succ]
            refine wpAnyH_done (by kernel_rfl) ?_ _
            have HHD := Lib.hid hd
            have HCD := Lib.hid hcd
            have HY := HMID3.y
            simp only [List.length_cons] at HY
            clear hio hS0 hd hcd
            go_wp2_with fail
            refine wp_region_held_drew (S := fun _ => True) (by kernel_rfl) ?_ (fun hS => ?_)
            · exact trivial
            refine wpAnyH_take (i := 1) (v := .string picks) rfl (by kernel_rfl) (by kernel_rfl) (by kernel_rfl) (fun _ _ _ h => h) (Or.inl ⟨by rfl, ?_⟩) hS ?_
            · intro w hSw
              go_simp
            simp only [Act.put, List.getElem_toArray, List.getElem_cons_succ, List.getElem_cons_zero, List.setIfInBounds_toArray, List.set_cons_zero, List.set_cons_succ]
            refine wpAnyH_take (i := 2) (v := .int .i64 k) rfl (by kernel_rfl) (by kernel_rfl) (by kernel_rfl) (fun _ _ _ h => h) (Or.inl ⟨by rfl, ?_⟩) hS ?_
            · intro w hSw
              go_simp
            simp only [Act.put, List.getElem_toArray, List.getElem_cons_succ, List.getElem_cons_zero, List.setIfInBounds_toArray, List.set_cons_zero, List.set_cons_succ]
            refine wpAnyH_take (i := 3) (v := .int .u8 ((bt picks k).toNat : Int)) rfl (by kernel_rfl) (by kernel_rfl) (by kernel_rfl) (fun _ _ _ h => h) (Or.inl ⟨by rfl, ?_⟩) hS ?_
            · intro w hSw
              go_simp
            simp only [Act.put, List.getElem_toArray, List.getElem_cons_succ, List.getElem_cons_zero, List.setIfInBounds_toArray, List.set_cons_zero, List.set_cons_succ]
            refine wpAnyH_take (i := 4) (v := .int .i64 ((bt picks k).toNat : Int)) rfl (by kernel_rfl) (by kernel_rfl) (by kernel_rfl) (fun _ _ _ h => h) (Or.inl ⟨by rfl, ?_⟩) hS ?_
            · intro w hSw
              go_simp
            simp only [Act.put, List.getElem_toArray, List.getElem_cons_succ, List.getElem_cons_zero, List.setIfInBounds_toArray, List.set_cons_zero, List.set_cons_succ]
            refine wpAnyH_take (i := 5) (v := .int .i64 (((bt picks k).toNat : Int) - 48)) rfl (by kernel_rfl) (by kernel_rfl) (by kernel_rfl) (fun _ _ _ h => h) (Or.inl ⟨by rfl, ?_⟩) hS ?_
            · intro w hSw
              go_simp
            simp only [Act.put, List.getElem_toArray, List.getElem_cons_succ, List.getElem_cons_zero, List.setIfInBounds_toArray, List.set_cons_zero, List.set_cons_succ]
            have hcd2 : ((bt picks k).toNat : Int) - 48 = (d : Int) := HCD.out
            rw [hcd2]
            clear hcd2
            have hbd : Below w4.heap.size w4 w4.drew := (Below.refl _ _).drew
            have HY4 := HY.drew
            have hPC := HMID3.t.drew
            have hSW : ∀ q, S q → q < w4.drew.heap.size := fun q hq => by have := HMID3.hS q hq; have := HMID3.b.drew.size; omega
            generalize w4.drew = w6 at *
            refine wpAnyH_ready (rs := [0]) (by kernel_rfl) (by simp) ?_
            refine AllReadyH.cons rfl (fun K hK => ?_) AllReadyH.nil
            rw [if_pos (by rfl)]
            refine op_load_Blk _ _ rfl Y rfl HY4 hu rfl pl_i ?_
            refine hK.out _ _ trivial (fun _ => ?_)
            clear hK K
            simp only [Act.put, List.getElem_toArray, List.getElem_cons_succ, List.getElem_cons_zero, List.setIfInBounds_toArray, List.set_cons_zero, List.set_cons_succ]
            refine wpAnyH_ready (rs := [6]) (by kernel_rfl) (by simp) ?_
            refine AllReadyH.cons rfl (fun K hK => ?_) AllReadyH.nil
            rw [if_pos (by rfl)]
            refine op_call 28 _ _ rfl (enters_of Tryz.func28 (by kernel_rfl) rfl) _ (impl_choose S t1 hfit.1 us1 s' d hnx HHD.out (200 - m) g2 cap2 _ (by omega) hPC (by omega) hSW) rfl ?_
            rintro e w7 ⟨g5, cap5, he5, hP5, hb5⟩
            have e200 : 200 - m + 1 = 200 - (m - 1) := by omega
            obtain ⟨kk, hkk⟩ : ∃ kk, ((t1.chose s' d).2 ++ us1).length = kk := ⟨_, rfl⟩
            rw [hkk, e200] at he5
            subst he5
            refine ⟨_, rfl, ?_⟩
            refine hK.out _ _ trivial (fun _ => ?_)
            clear hK K
            simp only [Act.put, List.getElem_toArray, List.getElem_cons_succ, List.getElem_cons_zero, List.setIfInBounds_toArray, List.set_cons_zero, List.set_cons_succ]
            refine wpAnyH_ready (rs := [7]) (by kernel_rfl) (by simp) ?_
            refine AllReadyH.cons rfl (fun K hK => ?_) AllReadyH.nil
            rw [if_pos (by rfl)]
            have HX5 := HMID3.x.grown (below_step hbd hb5)
            have HR := HMID3.next hm1 HHD.out hlt HS0.out (below_step hbd hb5) hP5 hkk rfl
            refine op_store_Blk _ _ _ rfl X rfl rfl HX5 pl_i rfl (by simp [Value.oneCell']) ?_
            refine hK.out _ _ trivial (fun _ => ?_)
            clear hK K
            simp only [Act.put, List.getElem_toArray, List.getElem_cons_succ, List.getElem_cons_zero, List.setIfInBounds_toArray, List.set_cons_zero, List.set_cons_succ]
            refine wpAnyH_done (by kernel_rfl) ?_ _
            clear HMID3 HY HY4 hPC hP5 HHD HCD HS0 HX5 hkk e200
            go_wp2_with fail
            go_roundw
            case rel => exact ⟨m - 1, _, _, k + 1, g5, cap5, by go_num, HR⟩
            case measure => simp [intOf]; omega
    · have hSS := play_end HMID.run hpk (picks.data.toList.drop k) k
      rw [HMID.play] at hSS
      cases f with
      | pick => exact absurd rfl hpk
      | done =>
        have HD := HMID.done (.fin .done) hSS ⟨#[100, 111, 110, 101]⟩ ⟨#[]⟩ rfl rfl
        clear HMID hSS hpk
        rw [show fwW (us, .done) = ⟨#[]⟩ from by cases us <;> rfl, show fwE .done = ⟨#[100, 111, 110, 101]⟩ from rfl]
        go_wp2_with (first
          | (refine wp_store_BlkNew rfl _ _ _ rfl rfl rfl pl_i rfl (by simp [Value.oneCell']) ?_)
          | (refine wp_store_Blk rfl _ _ _ rfl w.heap.size rfl rfl HZ pl_i rfl (by simp [Value.oneCell']) ?_)
          | (refine wp_load_Blk rfl _ _ rfl w2.heap.size rfl HY hu rfl pl_i ?_))
        exact ret_Blk4 rfl w.heap.size rfl (HZ.setRow _) hu rfl pl_i rfl HD
      | long =>
        have HD := HMID.done (.fin .long) hSS ⟨#[108, 111, 110, 103]⟩ ⟨#[]⟩ rfl rfl
        clear HMID hSS hpk
        rw [show fwW (us, .long) = ⟨#[]⟩ from by cases us <;> rfl, show fwE .long = ⟨#[108, 111, 110, 103]⟩ from rfl]
        go_wp2_with (first
          | (refine wp_store_BlkNew rfl _ _ _ rfl rfl rfl pl_i rfl (by simp [Value.oneCell']) ?_)
          | (refine wp_store_Blk rfl _ _ _ rfl w.heap.size rfl rfl HZ pl_i rfl (by simp [Value.oneCell']) ?_)
          | (refine wp_load_Blk rfl _ _ rfl w2.heap.size rfl HY hu rfl pl_i ?_))
        exact ret_Blk4 rfl w.heap.size rfl (HZ.setRow _) hu rfl pl_i rfl HD
      | broke a =>
        cases a
        · skip
          have HD := HMID.done (.fin (.broke false)) hSS ⟨#[100, 101, 109, 111, 110]⟩ ⟨#[]⟩ rfl rfl
          clear HMID hSS hpk
          rw [show fwW (us, (.broke false)) = ⟨#[]⟩ from by cases us <;> rfl, show fwE (.broke false) = ⟨#[100, 101, 109, 111, 110]⟩ from rfl]
          go_wp2_with (first
            | (refine wp_store_BlkNew rfl _ _ _ rfl rfl rfl pl_i rfl (by simp [Value.oneCell']) ?_)
            | (refine wp_store_Blk rfl _ _ _ rfl w.heap.size rfl rfl HZ pl_i rfl (by simp [Value.oneCell']) ?_)
            | (refine wp_load_Blk rfl _ _ rfl w2.heap.size rfl HY hu rfl pl_i ?_))
          exact ret_Blk4 rfl w.heap.size rfl (HZ.setRow _) hu rfl pl_i rfl HD
        · skip
          have HD := HMID.done (.fin (.broke true)) hSS ⟨#[97, 110, 103, 101, 108]⟩ ⟨#[]⟩ rfl rfl
          clear HMID hSS hpk
          rw [show fwW (us, (.broke true)) = ⟨#[]⟩ from by cases us <;> rfl, show fwE (.broke true) = ⟨#[97, 110, 103, 101, 108]⟩ from rfl]
          go_wp2_with (first
            | (refine wp_store_BlkNew rfl _ _ _ rfl rfl rfl pl_i rfl (by simp [Value.oneCell']) ?_)
            | (refine wp_store_Blk rfl _ _ _ rfl w.heap.size rfl rfl HZ pl_i rfl (by simp [Value.oneCell']) ?_)
            | (refine wp_load_Blk rfl _ _ rfl w2.heap.size rfl HY hu rfl pl_i ?_))
          exact ret_Blk4 rfl w.heap.size rfl (HZ.setRow _) hu rfl pl_i rfl HD
end Go.Proofs.YtaeibhpkcikaaaaGreatDoor

/- LawP -/
namespace Go.Proofs.YtaeibhpkcikaaaaGreatDoor
set_option linter.unusedVariables false
set_option linter.unusedSimpArgs false
open Go.RowKit Go.Shelf
set_option maxRecDepth 100000
set_option maxHeartbeats 10000000

theorem ct_ofP {c : ByteArray} (h : isCt c = true) : ∃ t : Ct, t.WF ∧ c = t.text ∧ t.len ≤ 200 := by
  obtain ⟨t, h1, h2, h3⟩ := isCt_iff.1 h
  exact ⟨t, h1, h2, by rw [← t.text_size, ← h2]; exact h3⟩
theorem text_injP {t u : Ct} (ht : t.WF) (hu : u.WF) (h : t.text = u.text) : t = u := (lies_text t).uniq (by rw [h]; exact lies_text u) ht hu
theorem szCtP {t : Ct} (h : t.len ≤ 200) : t.text.size ≤ 4611686018427387904 := by rw [t.text_size]; omega
theorem impl_stateOk (s : Int) (w : World) : Calls Tryz.prog 22 #[.int .i64 s] w fun e w' => e = .returned (.bool (stOk s)) ∧ w = w' := by
  have HS : Hid (stOk s = (decide (0 ≤ s) && decide (s < 4))) := rfl
  by_cases h1 : 0 ≤ s
  · have e1 : decide (0 ≤ s) = true := by simpa using h1
    by_cases h2 : s < 4
    · have e2 : decide (s < 4) = true := by simpa using h2
      have e : Hid (stOk s = true) := by show _ = _; rw [HS.out, e1, e2]; rfl
      go_enter Tryz.func22, Tryz.ntmps22
      go_wp2_with fail
      go_ret
      rw [e.out]; exact ⟨rfl, rfl⟩
    · have e2 : decide (s < 4) = false := by simpa using h2
      have e : Hid (stOk s = false) := by show _ = _; rw [HS.out, e1, e2]; rfl
      go_enter Tryz.func22, Tryz.ntmps22
      go_wp2_with fail
      go_ret
      rw [e.out]; exact ⟨rfl, rfl⟩
  · have e1 : decide (0 ≤ s) = false := by simpa using h1
    have e : Hid (stOk s = false) := by show _ = _; rw [HS.out, e1]; rfl
    go_enter Tryz.func22, Tryz.ntmps22
    go_wp2_with fail
    go_ret
    rw [e.out]; exact ⟨rfl, rfl⟩
theorem impl_PlayContract_no1 (c picks : ByteArray) (s : Int) (w : World) (hc : c.size ≤ 4611686018427387904) (h : isCt c = false) :
    Calls Tryz.prog 10 #[.string c, .int .i64 s, .string picks] w fun e w' => e = .returned (.tuple #[.int .i64 0, .int .i64 0, .string ⟨#[]⟩]) ∧ Below w.heap.size w w' := by
  go_enter Tryz.func10, Tryz.ntmps10
  go_wp2_with fail
  refine (impl_read c hc _).mono ?_
  rintro e w1 ⟨hA, hb1⟩
  obtain rfl : e = .returned (.pointer none) := by
    rcases hA with ⟨t, _, h1, rfl, h3, _⟩ | ⟨_, rfl⟩
    · rw [isCt_text h1 h3] at h; cases h
    · rfl
  clear hA h
  go_wp2_with fail
  go_ret3
  exact ⟨rfl, hb1⟩
theorem impl_PlayContract_no2 (t : Ct) (ht : t.WF) (hlen : t.len ≤ 200) (picks : ByteArray) (s : Int) (w : World) (h : stOk s = false) :
    Calls Tryz.prog 10 #[.string t.text, .int .i64 s, .string picks] w fun e w' => e = .returned (.tuple #[.int .i64 0, .int .i64 0, .string ⟨#[]⟩]) ∧ Below w.heap.size w w' := by
  have H := Lib.hid h
  clear h
  go_enter Tryz.func10, Tryz.ntmps10
  go_wp2_with fail
  refine (impl_read t.text (szCtP hlen) _).mono ?_
  rintro e w1 ⟨hA, hb1⟩
  obtain ⟨b, rfl⟩ : ∃ b, e = .returned (.pointer (some ⟨b, 0, none⟩)) := by
    rcases hA with ⟨_, b, _, _, _, rfl, _⟩ | ⟨h, _⟩
    · exact ⟨b, rfl⟩
    · rw [isCt_text ht hlen] at h; cases h
  clear hA
  go_wp2_with fail
  refine (impl_stateOk _ _).mono ?_
  rintro e w' ⟨rfl, rfl⟩
  rw [H.out]
  go_wp2_with fail
  go_ret3
  exact ⟨rfl, hb1⟩
/-- a contract that is read lies in blocks of its own -/
theorem read_tree {t : Ct} (ht : t.WF) (hlen : t.len ≤ 200) {w : World} {e : Ending} {w1 : World} (hA : RdCt t.text w e w1) : ∃ b, e = .returned (.pointer (some ⟨b, 0, none⟩)) ∧ Tree w1 (fun q => q < w1.heap.size) t b ∧ Below w.heap.size w w1 := by
  obtain ⟨hA, hb⟩ := hA
  rcases hA with ⟨t', b, h1, h2, _, rfl, h5⟩ | ⟨h, _⟩
  · obtain rfl := text_injP ht h1 h2
    exact ⟨b, rfl, h5.weaken (fun k _ hk => hk), hb⟩
  · rw [isCt_text ht hlen] at h; cases h
theorem impl_PlayContract_yes (t : Ct) (ht : t.WF) (hlen : t.len ≤ 200) (s : Nat) (hs : s < 4) (picks : ByteArray) (hp : picks.size ≤ 4611686018427387904) (w : World) :
    Calls Tryz.prog 10 #[.string t.text, .int .i64 s, .string picks] w fun e w' => e = .returned (.tuple #[.int .i64 ((t.play s picks.data.toList).state : Nat), .int .i64 ((t.play s picks.data.toList).used : Nat), .string (toldS (t.play s picks.data.toList).how)]) ∧ Below w.heap.size w w' := by
  have H : Hid (stOk (s : Int) = true) := stOk_of hs
  go_enter Tryz.func10, Tryz.ntmps10
  go_wp2_with fail
  refine (impl_read t.text (szCtP hlen) _).mono ?_
  intro e w1 hA
  obtain ⟨b, rfl, hT, hb1⟩ := read_tree ht hlen hA
  clear hA
  go_wp2_with fail
  refine (impl_stateOk _ _).mono ?_
  rintro e w' ⟨rfl, rfl⟩
  rw [H.out]
  go_wp2_with fail
  refine (impl_play _ t ht hlen b s hs picks hp _ hT (fun q hq => hq)).mono ?_
  rintro e w2 ⟨hb2, g, cap, rfl, hP⟩
  clear hP hT
  go_wp2_with (refine wp_store_BlkNew rfl _ _ _ rfl rfl rfl pl_i rfl (by simp [Value.oneCell']) ?_)
  go_ret3
  exact ⟨rfl, below_new (below_step hb1 hb2) _⟩
theorem optsB_take (l : List Nat) (k : Nat) (x : Nat) (h : l[k]? = some x) : optsB (l.take (k + 1)) = optsB (l.take k) ++ ⟨#[decB x]⟩ := by
  obtain ⟨hk, rfl⟩ := List.getElem?_eq_some_iff.1 h
  apply ByteArray.ext; apply Array.ext'
  rw [List.take_succ_eq_append_getElem hk]
  generalize l.take k = A
  generalize l[k] = x
  simp [optsB, ByteArray.data_append]
end Go.Proofs.YtaeibhpkcikaaaaGreatDoor
