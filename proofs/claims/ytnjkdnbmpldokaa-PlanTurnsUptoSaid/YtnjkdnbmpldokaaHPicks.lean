/- plan.reader.picks: the iterator. -/
import Derived.RangeFuncIn
import Derived.RangeFuncSeq
import Derived.WalkKit
import Derived.OwnWalkIn
import Derived.TacticsInMore
import Derived.LoopNIn
import Derived.LoopIn
import Derived.Sort.LoopGhostIn
import Derived.RegionIn
import Derived.Shelf.RegionOpen
import Derived.Shelf.Abstract
import Derived.Carry
import Derived.Lib.Hide
import Derived.WalkMore
import Derived.Test.YtnjkdnbmpldokaaHThere
import Derived.Test.YtnjkdnbmpldokaaHDiff
import Derived.Test.YtnjkdnbmpldokaaTools
import Derived.Test.YtnjkdnbmpldokaaP52
import Derived.Test.YtnjkdnbmpldokaaP53
import Derived.Test.YtnjkdnbmpldokaaPz
namespace Go.Proofs.Ytnjkdnbmpldokaa.P
open Go.RowKit Go.Shelf Go.Proofs.YtnjkdnbmpldokaaW.PrintWords Go.Proofs.YtnjkdnbmpldokaaW.PrintLast Go.Proofs.YtnjkdnbmpldokaaW.PrintMore Go.Proofs.YtnjkdnbmpldokaaB
attribute [local go_sem] Oper.semAt_some
set_option linter.unusedVariables false
set_option linter.unusedSimpArgs false

/-- The reader's four cells. -/
structure Rd where
  s : ByteArray
  at_ : Int
  e : Int
  ea : Int
def leS (x y : ByteArray) : Bool := !(Op.bytesLess y.toList x.toList)
/-- A round of the reader: a pick, or none. -/
def pickRound (k : Nat) (q : Rd) (last : ByteArray) : Option (Option S61 × Rd) :=
  (plan_reader_word.f k q.s q.at_ q.e q.ea 32).bind fun b =>
    ((if b.2.2.2.1 = 0 then (if leS b.1 last = true then plan_reader_fail.f b.2.1 b.2.2.1 b.2.2.2.1 b.2.2.2.2 16 q.at_ else some (b.2.1, b.2.2.1, b.2.2.2.1, b.2.2.2.2)) else some (b.2.1, b.2.2.1, b.2.2.2.1, b.2.2.2.2)) : Option (ByteArray × Int × Int × Int)).bind fun t =>
      if t.2.2.1 = 0 then
        (plan_reader_word.f k t.1 (wrap64 (t.2.1 + 1)) t.2.2.1 t.2.2.2 10).bind fun c =>
          if c.2.2.2.1 = 0 then some (some ⟨b.1, c.1⟩, ⟨c.2.1, wrap64 (c.2.2.1 + 1), c.2.2.2.1, c.2.2.2.2⟩) else some (none, ⟨c.2.1, wrap64 (c.2.2.1 + 1), c.2.2.2.1, c.2.2.2.2⟩)
      else some (none, ⟨t.1, t.2.1, t.2.2.1, t.2.2.2⟩)
def optM {α β : Type} (o : Option α) (d : Option β) (f : α → Option β) : Option β := o.elim d f
def readGo (k : Nat) : Nat → Rd → ByteArray → List S61 → Option (List S61 × Rd)
  | 0, _, _, _ => none
  | n + 1, q, last, acc => if q.at_ < (q.s.size : Int) then (pickRound k q last).bind fun z => optM z.1 (some (acc, z.2)) (fun x => if acc.length < 4194304 then readGo k n z.2 x.f0 (acc ++ [x]) else none) else some (acc, q)
theorem optM_mono {α β : Type} {o : Option α} {f f' : α → Option β} {d : Option β} (h : ∀ x, LeO (f x) (f' x)) : LeO (optM o d f) (optM o d f') := by
  cases o with
  | none => exact LeO.refl _
  | some x => exact h x
theorem pickRound_mono (k : Nat) (q : Rd) (last : ByteArray) : LeO (pickRound k q last) (pickRound (k + 1) q last) := by
  unfold pickRound
  exact LeO.bind (plan_reader_word.mono _ _ _ _ _ _) (fun _ => LeO.bind (LeO.refl _) (fun _ => LeO.ite (LeO.bind (plan_reader_word.mono _ _ _ _ _ _) (fun _ => LeO.refl _)) (LeO.refl _)))
theorem readGo_mono (k : Nat) : ∀ n q last acc, LeO (readGo k n q last acc) (readGo (k + 1) (n + 1) q last acc)
  | 0, _, _, _ => LeO.none _
  | n + 1, q, last, acc => by
    rw [readGo, readGo]
    exact LeO.ite (LeO.bind (pickRound_mono _ _ _) (fun z => optM_mono (fun x => LeO.ite (readGo_mono k n _ _ _) (LeO.refl _)))) (LeO.refl _)

/-- What stands inside a round of the reader. -/
structure Sr (w0 wr W : World) (g pb : Nat) (s : ByteArray) (at_ e ea : Int) (b v : ByteArray) : Prop where
  kb : KeepBut wr W g none
  hi : IsS81 w0 W g s at_ e ea
  hp : W.heap[pb]? = some (.cells #[.string b, .string v] 61)
  hb : Below w0.heap.size w0 W
  hn : wr.heap.size ≤ pb
section
variable {w0 wr W W' : World} {g pb : Nat} {s s' : ByteArray} {at_ e ea at' e' ea' : Int} {b v : ByteArray}
theorem Sr.ne (h : Sr w0 wr W g pb s at_ e ea b v) : pb ≠ g := blk_ne h.hp h.hi.1 (by decide)
theorem Sr.call (h : Sr w0 wr W g pb s at_ e ea b v) (hi : IsS81 w0 W' g s' at' e' ea') (hB : Below w0.heap.size w0 W') (hk : KeepBut W W' g none) : Sr w0 wr W' g pb s' at' e' ea' b v :=
  ⟨h.kb.trans hk (.inl rfl), hi, (hk.2 pb (blk_lt h.hp) h.ne (by simp)).trans h.hp, hB, h.hn⟩
theorem Sr.made (hk : KeepBut wr W g none) (hi : IsS81 w0 W g s at_ e ea) (hB : Below w0.heap.size w0 W) : Sr w0 wr (W.alloc (.cells #[.string b, .string v] 61)) g W.heap.size s at_ e ea b v :=
  ⟨⟨Nat.le_trans hk.1 (by simp), fun i h1 h2 h3 => (Below.heap_alloc W _ i (Nat.lt_of_lt_of_le h1 hk.1)).trans (hk.2 i h1 h2 h3)⟩, hi.alloc _, alloc_new W _, below_alloc hB _, hk.1⟩
theorem Sr.setAt (h : Sr w0 wr W g pb s at_ e ea b v) (x : Int) : Sr w0 wr (W.setCell ⟨g, 1, none⟩ (.int .i64 x)) g pb s x e ea b v :=
  ⟨⟨by simpa [World.setCell] using h.kb.1, fun i h1 h2 h3 => (Below.heap_setCell W ⟨g, 1, none⟩ _ i h2).trans (h.kb.2 i h1 h2 h3)⟩, ⟨blk_put h.hi.1 1 _ rfl, h.hi.2⟩, (Below.heap_setCell W ⟨g, 1, none⟩ _ pb h.ne).trans h.hp, h.hb.setCell (p := ⟨g, 1, none⟩) h.hi.2 _, h.hn⟩
theorem Sr.setV (h : Sr w0 wr W g pb s at_ e ea b v) (hle : w0.heap.size ≤ pb) (x : ByteArray) : Sr w0 wr (W.setCell ⟨pb, 1, none⟩ (.string x)) g pb s at_ e ea b x :=
  ⟨⟨by simpa [World.setCell] using h.kb.1, fun i h1 h2 h3 => (Below.heap_setCell W ⟨pb, 1, none⟩ _ i (by have := h.hn; simp; omega)).trans (h.kb.2 i h1 h2 h3)⟩, ⟨(Below.heap_setCell W ⟨pb, 1, none⟩ _ g (Ne.symm h.ne)).trans h.hi.1, h.hi.2⟩, blk_put h.hp 1 _ rfl, h.hb.setCell (p := ⟨pb, 1, none⟩) hle _, h.hn⟩
theorem Sr.s0 (h : Sr w0 wr W g pb s at_ e ea b v) : W.cell? ⟨g, 0, none⟩ = some (.string s) := (blk_cell h.hi.1 0).trans rfl
theorem Sr.s1 (h : Sr w0 wr W g pb s at_ e ea b v) : W.cell? ⟨g, 1, none⟩ = some (.int .i64 at_) := (blk_cell h.hi.1 1).trans rfl
theorem Sr.s2 (h : Sr w0 wr W g pb s at_ e ea b v) : W.cell? ⟨g, 2, none⟩ = some (.int .i64 e) := (blk_cell h.hi.1 2).trans rfl
theorem Sr.sf (h : Sr w0 wr W g pb s at_ e ea b v) : W.frozen? ⟨g, 1, none⟩ = false := blk_frozen h.hi.1 1
theorem Sr.p0 (h : Sr w0 wr W g pb s at_ e ea b v) : W.cell? ⟨pb, 0, none⟩ = some (.string b) := (blk_cell h.hp 0).trans rfl
theorem Sr.p1 (h : Sr w0 wr W g pb s at_ e ea b v) : W.cell? ⟨pb, 1, none⟩ = some (.string v) := (blk_cell h.hp 1).trans rfl
theorem Sr.pf (h : Sr w0 wr W g pb s at_ e ea b v) : W.frozen? ⟨pb, 1, none⟩ = false := blk_frozen h.hp 1
end
theorem keep_drew {w W : World} {g : Nat} (h : KeepBut w W g none) : KeepBut w W.drew g none := h
set_option maxRecDepth 100000 in
set_option maxHeartbeats 4000000 in
/-- The iterator's closure, for a round that always goes on. -/
theorem picks_in (n l Bs g k : Nat) (w0 : World) (J : List S61 → World → Prop) (r : List S61 × Rd)
    (hJ : ∀ acc W, J acc W → W.cell? ⟨Bs, 0, none⟩ = some (.pointer (some ⟨g, 0, none⟩)))
    (hK : ∀ acc W W', J acc W → KeepBut W W' g none → J acc W')
    (hY : ∀ (acc : List S61) (x : S61) (q : Rd) (W : World), acc.length < 4194304 → J acc W → IsS81 w0 W g q.s q.at_ 0 q.ea → Below w0.heap.size w0 W → YieldAt Fence.wide n Try.prog l #[pickV x] W fun e W' => e = .returned (.bool true) ∧ J (acc ++ [x]) W' ∧ IsS81 w0 W' g q.s q.at_ 0 q.ea ∧ Below w0.heap.size w0 W')
    (q : Rd) (acc : List S61) (W : World) (h0 : J acc W) (hI : IsS81 w0 W g q.s q.at_ q.e q.ea) (hB : Below w0.heap.size w0 W) (h : readGo k k q ⟨#[]⟩ acc = some r) :
    CallsIn Fence.wide (n + 1) Try.prog 51 #[.func (.yield l) #[] #[], .pointer (some ⟨Bs, 0, none⟩)] W fun e W' => (∃ v, e = .returned v) ∧ J r.1 W' ∧ IsS81 w0 W' g r.2.s r.2.at_ r.2.e r.2.ea ∧ Below w0.heap.size w0 W' := by
  have HJ := Aside0.mk hJ
  have HK := Aside0.mk hK
  have HY := Aside0.mk hY
  have H0 := Aside0.mk h0
  have HI := Aside0.mk hI
  have HB := Aside0.mk hB
  have H := Aside0.mk h
  clear hJ hK hY h0 hI hB h
  have hu61 := Try.underlying61
  refine callsIn_of_wp Try.func51 rfl trivial ?_ rfl
  simp only [Try.ntmps51, List.size_toArray, List.length_cons, List.length_nil, Nat.reduceAdd, Nat.reduceSub, Array.replicate_succ, Array.replicate_zero, List.push_toArray, List.append_toArray, List.nil_append, List.cons_append]
  gi_wp2
  gi_loopg [3] k (fun kq v3 wr => ∃ (q : Rd) (last : ByteArray) (acc : List S61), v3 = .string last ∧ Aside0 (readGo k kq q last acc = some r) ∧ Aside0 (J acc wr) ∧ Aside0 (IsS81 w0 wr g q.s q.at_ q.e q.ea) ∧ Aside0 (Below w0.heap.size w0 wr))
  case atStart => exact ⟨q, ⟨#[]⟩, acc, rfl, H, H0, HI, HB⟩
  case round =>
    clear H H0 HI HB
    try clear q
    obtain ⟨q, last, acc, rfl, H, H0, HI, HB⟩ := hrel
    cases gk with
    | zero => exact absurd H.out (by simp [readGo])
    | succ k1 =>
      have H1 := H.out
      clear H
      rw [readGo] at H1
      have cr := HJ.out _ _ H0.out
      have ci0 : wr.cell? ⟨g, 0, none⟩ = some (.string q.s) := (blk_cell HI.out.1 0).trans rfl
      have ci1 : wr.cell? ⟨g, 1, none⟩ = some (.int .i64 q.at_) := (blk_cell HI.out.1 1).trans rfl
      split at H1
      case isFalse hc =>
        cases H1
        have cb : decide (q.at_ < (q.s.size : Int)) = false := decide_eq_false hc
        clear hc
        gi_wp2
        gi_region
        gi_wp2
        go_end0
        exact ⟨⟨_, rfl⟩, HK.out _ _ _ H0.out (keep_drew (KeepBut.refl _ _ _)), HI.out.drew, below_drew HB.out⟩
      case isTrue hc =>
        have cb : decide (q.at_ < (q.s.size : Int)) = true := decide_eq_true hc
        clear hc
        obtain ⟨z, hz, H1⟩ := Option.bind_eq_some_iff.1 H1
        unfold pickRound at hz
        obtain ⟨⟨b1, b2, b3, b4, b5⟩, hb, hz⟩ := Option.bind_eq_some_iff.1 hz
        have HW1 := Aside0.mk hb
        clear hb
        have CR : Aside0 (∀ W, KeepBut wr W g none → W.cell? ⟨Bs, 0, none⟩ = some (.pointer (some ⟨g, 0, none⟩))) := ⟨fun W hk => HJ.out _ _ (HK.out _ _ _ H0.out hk)⟩
        have HZ := Aside0.mk hz
        have HN := Aside0.mk H1
        clear hz H1
        gi_wp2
        gi_region
        gi_upto_region 4 with (refine ⟨trivial, ?_⟩; gi_at_call 52; go_loud (refine (callsIn_wide (n := n)).2 ((plan_reader_word.calls k g q.s q.at_ q.e q.ea 32 b1 b2 b3 b4 b5 w0 _ HI.out.drew (below_drew HB.out) HW1.out).mono ?_); rintro e w1 ⟨rfl, hi, hb, hk⟩; have SR := Aside0.mk (Sr.made (b := b1) (v := ⟨#[]⟩) ((keep_drew (KeepBut.refl wr g none)).trans hk (.inl rfl)) hi hb); have hlt := hk.1; clear hi hb hk))
        generalize w1.alloc (.cells #[.string b1, .string ⟨#[]⟩] 61) = W2 at SR ⊢
        generalize w1.heap.size = pb at SR hlt ⊢
        clear hlt
        have acr := CR.out _ SR.out.kb; have as0 := SR.out.s0; have as1 := SR.out.s1; have as2 := SR.out.s2; have asf := SR.out.sf; have ap0 := SR.out.p0; have ap1 := SR.out.p1; have apf := SR.out.pf
        have HZ1 := HZ.out
        clear HZ

        by_cases c4 : b4 = 0
        · subst c4
          rw [if_pos rfl] at HZ1
          by_cases cl : leS b1 last = true
          · have cl2 : Op.bytesLess last.toList b1.toList = false := by simpa [leS] using cl
            rw [if_pos cl] at HZ1
            obtain ⟨t, ht, HZ1⟩ := Option.bind_eq_some_iff.1 HZ1
            rw [plan_reader_fail.f, if_pos rfl] at ht
            cases ht
            rw [if_neg (by simp)] at HZ1
            cases HZ1
            have HN1 := HN.out
            cases HN1
            clear cl HN
            gi_wp2_with (refine ⟨trivial, ?_⟩; gi_at_call 53; go_loud (refine (callsIn_wide (n := n)).2 ((plan_reader_fail.calls g b2 b3 0 b5 16 q.at_ b2 b3 16 q.at_ w0 _ SR.out.hi SR.out.hb rfl).mono ?_); rintro e w3 ⟨rfl, hi, hb, hk⟩; have SR' := Aside0.mk (SR.out.call hi hb hk); clear SR hi hb hk; have SR := SR'; clear SR'; have bcr := CR.out _ SR.out.kb; have bs0 := SR.out.s0; have bs1 := SR.out.s1; have bs2 := SR.out.s2; have bsf := SR.out.sf))
            (try simp only [Exit.inBlock, Exit.then])
            refine bodyPost_ret (results_none rfl _ _ _) rfl ?_
            exact ⟨⟨_, rfl⟩, HK.out _ _ _ H0.out SR.out.kb, SR.out.hi, SR.out.hb⟩
          · have cl2 : Op.bytesLess last.toList b1.toList = true := by simpa [leS] using cl
            rw [if_neg cl] at HZ1
            obtain ⟨t, ht, HZ1⟩ := Option.bind_eq_some_iff.1 HZ1
            cases ht
            rw [if_pos rfl] at HZ1
            obtain ⟨⟨c1, c2, c3, c4, c5⟩, hw2, HZ1⟩ := Option.bind_eq_some_iff.1 HZ1
            have HW2 := Aside0.mk hw2
            have HZ2 := Aside0.mk HZ1
            clear hw2 HZ1 cl
            gi_upto_region 9 with fail
            have SR1 := Aside0.mk (SR.out.setAt (wrap64 (b3 + 1)))
            clear SR acr as0 as1 as2 asf ap0 ap1 apf
            have SR := SR1
            clear SR1
            generalize W2.setCell ⟨g, 1, none⟩ (.int .i64 (wrap64 (b3 + 1))) = W3 at SR ⊢
            have acr := CR.out _ SR.out.kb; have as0 := SR.out.s0; have as1 := SR.out.s1; have as2 := SR.out.s2; have asf := SR.out.sf; have ap0 := SR.out.p0; have ap1 := SR.out.p1; have apf := SR.out.pf
            gi_upto_region 10 with (refine ⟨trivial, ?_⟩; gi_at_call 52; go_loud (refine (callsIn_wide (n := n)).2 ((plan_reader_word.calls k g b2 (wrap64 (b3 + 1)) 0 b5 10 c1 c2 c3 c4 c5 w0 _ SR.out.hi SR.out.hb HW2.out).mono ?_); rintro e w4 ⟨rfl, hi, hb, hk⟩; have SR' := Aside0.mk (SR.out.call hi hb hk); clear SR hi hb hk; have SR := SR'; clear SR'; have bcr := CR.out _ SR.out.kb; have bs0 := SR.out.s0; have bs1 := SR.out.s1; have bs2 := SR.out.s2; have bsf := SR.out.sf; have bp0 := SR.out.p0; have bp1 := SR.out.p1; have bpf := SR.out.pf))
            have SR1 := Aside0.mk (SR.out.setV (Nat.le_trans (below_size HB.out) SR.out.hn) c1)
            clear SR acr as0 as1 as2 asf ap0 ap1 apf bcr bs0 bs1 bs2 bsf bp0 bp1 bpf
            have SR := SR1
            clear SR1
            generalize w4.setCell ⟨pb, 1, none⟩ (.string c1) = W5 at SR ⊢
            have acr := CR.out _ SR.out.kb; have as0 := SR.out.s0; have as1 := SR.out.s1; have as2 := SR.out.s2; have asf := SR.out.sf; have ap0 := SR.out.p0; have ap1 := SR.out.p1; have apf := SR.out.pf
            gi_upto_region 11 with fail
            have SR1 := Aside0.mk (SR.out.setAt (wrap64 (c3 + 1)))
            clear SR acr as0 as1 as2 asf ap0 ap1 apf
            have SR := SR1
            clear SR1
            generalize W5.setCell ⟨g, 1, none⟩ (.int .i64 (wrap64 (c3 + 1))) = W6 at SR ⊢
            have acr := CR.out _ SR.out.kb; have as0 := SR.out.s0; have as1 := SR.out.s1; have as2 := SR.out.s2; have asf := SR.out.sf; have ap0 := SR.out.p0; have ap1 := SR.out.p1; have apf := SR.out.pf
            have HZ1 := HZ2.out
            clear HZ2
            by_cases c0 : c4 = 0
            · subst c0
              rw [if_pos rfl] at HZ1
              cases HZ1
              have hn0 : (if acc.length < 4194304 then readGo k k1 ⟨c2, wrap64 (c3 + 1), 0, c5⟩ b1 (acc ++ [⟨b1, c1⟩]) else none) = some r := HN.out
              split at hn0
              case isFalse => cases hn0
              rename_i hlen
              have HN1 := Aside0.mk hn0
              clear HN hn0
              obtain ⟨fn, tmps, assign, body, hy, hR⟩ := HY.out acc ⟨b1, c1⟩ ⟨c2, wrap64 (c3 + 1), 0, c5⟩ W6 hlen (HK.out _ _ _ H0.out SR.out.kb) SR.out.hi SR.out.hb
              unfold pickV at hy
              gi_wp2
              refine hR.mono ?_
              rintro e W7 ⟨rfl, hJ7, hI7, hB7⟩
              have J7 := Aside0.mk hJ7
              have I7 := Aside0.mk hI7
              have B7 := Aside0.mk hB7
              clear hJ7 hI7 hB7 hR hy
              gi_wp2
              gi_roundg k1
              case measure => exact Nat.lt_succ_self _
              case rel => exact ⟨_, b1, _, rfl, HN1, J7, I7, B7⟩
            · rw [if_neg c0] at HZ1
              cases HZ1
              have HN1 := HN.out
              cases HN1
              have cd : decide (c4 = 0) = false := decide_eq_false c0
              have cd2 : decide (¬ c4 = 0) = true := decide_eq_true c0
              gi_wp2
              refine ⟨fun f hf => (by cases hf), ?_⟩
              gi_wp2
              (try simp only [Exit.inBlock, Exit.then])
              refine bodyPost_ret (results_none rfl _ _ _) rfl ?_
              exact ⟨⟨_, rfl⟩, HK.out _ _ _ H0.out SR.out.kb, SR.out.hi, SR.out.hb⟩
        · rw [if_neg c4] at HZ1
          obtain ⟨t, ht, HZ1⟩ := Option.bind_eq_some_iff.1 HZ1
          cases ht
          rw [if_neg c4] at HZ1
          cases HZ1
          have HN1 := HN.out
          cases HN1
          have cd : decide (b4 = 0) = false := decide_eq_false c4
          have cd2 : decide (¬ b4 = 0) = true := decide_eq_true c4
          clear HN
          gi_wp2
          (try simp only [Exit.inBlock, Exit.then])
          refine bodyPost_ret (results_none rfl _ _ _) rfl ?_
          exact ⟨⟨_, rfl⟩, HK.out _ _ _ H0.out SR.out.kb, SR.out.hi, SR.out.hb⟩

theorem picks_calls (g : Nat) (W : World) (n : Nat) : CallsIn Fence.wide n Try.prog 36 #[.pointer (some ⟨g, 0, none⟩)] W fun e W' => e = .returned (.func (.func 51) #[] #[.pointer (some ⟨W.heap.size, 0, none⟩)]) ∧ W' = W.alloc (.cells #[.pointer (some ⟨g, 0, none⟩)] 79) := by
  refine callsIn_of_wp Try.func36 rfl trivial ?_ rfl
  simp only [Try.ntmps36, List.size_toArray, List.length_cons, List.length_nil, Nat.reduceAdd, Nat.reduceSub, Array.replicate_succ, Array.replicate_zero, List.push_toArray, List.append_toArray, List.nil_append, List.cons_append]
  gi_wp2
  go_ret
  exact ⟨rfl, rfl⟩
end Go.Proofs.Ytnjkdnbmpldokaa.P
