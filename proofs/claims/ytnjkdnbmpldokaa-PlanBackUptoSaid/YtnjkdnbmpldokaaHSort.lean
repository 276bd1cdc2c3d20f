/- slices.Sort and slices.Compact at []string, in the words of the print: over a row that the call owns. -/
import Derived.Test.YtnjkdnbmpldokaaLib
import Derived.Shelf.Sort.Plain
import Derived.Shelf.Slices.In.SortNone
import Derived.Shelf.Slices.CompactS
import Derived.Lib.RowBridge
import Derived.Lib.OwnBridge
import Derived.Sort.OwnSorted
import Derived.Test.YtnjkdnbmpldokaaPz
namespace Go.Proofs.Ytnjkdnbmpldokaa.P
open Go.RowKit Go.Proofs.YtnjkdnbmpldokaaW.PrintWords Go.Proofs.YtnjkdnbmpldokaaW.PrintLast Go.Proofs.YtnjkdnbmpldokaaW.PrintMore

/-- A text out of its bytes. -/
def txt (l : List UInt8) : ByteArray := ⟨l.toArray⟩
theorem txt_toList (s : ByteArray) : txt s.data.toList = s := by simp [txt]
theorem map_txt (l : List ByteArray) : (l.map (·.data.toList)).map txt = l := by
  rw [List.map_map]
  conv => rhs; rw [← List.map_id l]
  apply List.map_congr_left
  intro x _
  exact txt_toList x
theorem encStr_txt (l : List (List UInt8)) : l.map Go.Proofs.encStr = (l.map txt).map Value.string := by
  rw [List.map_map]
  rfl

/-- What slices.Sort leaves. -/
def sortS (l : List ByteArray) : List ByteArray := ((l.map (·.data.toList)).mergeSort fun x y => decide (x ≤ y)).map txt
def slices_Sort_string_string.f (l0 : List ByteArray) : Option (List ByteArray) := if l0.length < 4611686018427387904 then some (sortS l0) else none
/-- What slices.Compact leaves. -/
def compactS (l : List ByteArray) : List ByteArray := (Lib.compact (l.map (·.data.toList))).map txt
def slices_Compact_string_string.f (l0 : List ByteArray) : Option (List ByteArray) := if l0.length < 4611686018427387904 then some (compactS l0) else none

theorem holds_row {w : World} {base : Nat} {ok : Nat → Prop} {v : Value} {l : List ByteArray} (h : Kd.R Kd.string 9 w base ok v l) (hv : v ≠ .slice none 0 0) :
    ∃ g cap cur, v = .slice (some ⟨g, 0, none⟩) l.length cap ∧ base ≤ g ∧ ok g ∧ w.heap[g]? = some (.cells cur 9 (0, 0)) ∧ l.length ≤ cap ∧ cap ≤ maxLen ∧ cur.size = cap * 1 ∧
      Sort.Holds Go.Proofs.encStr w g 0 (l.map (·.data.toList)).toArray ∧ w.ownsRow base 9 1 v l.length ((l.map (·.data.toList)).map Go.Proofs.encStr) := by
  have h2 : w.ownsRow base 9 1 v l.length ((l.map (·.data.toList)).map Go.Proofs.encStr) := by
    rw [Go.Lib.map_encStr]
    exact Kd.own_of_R h
  obtain ⟨g, cap, hv2, hb, hlt, hn, hm, hl, hH⟩ := Go.Lib.holds_of_ownsRow h2 hv
  rcases h2.2 with ⟨e0, _⟩ | ⟨g', cap', cur, e0, _, hg, _, _, hs, _⟩
  · exact absurd e0 hv
  · rw [hv2] at e0
    injection e0 with e1 _ e3
    injection e1 with e1
    injection e1 with e1
    subst e1; subst e3
    exact ⟨g, cap, cur, hv2, hb, h.1 g (by rw [hv2]; rfl), hg, hn, hm, hs, hH, h2⟩

theorem sortS_length (l : List ByteArray) : (sortS l).length = l.length := by simp [sortS]

theorem sort_at (blk off cap : Nat) (ss : List (List UInt8)) (w : World) (hH : Sort.Holds Go.Proofs.encStr w blk off ss.toArray) (hblk : blk < w.heap.size) (hsz : ss.length < 4611686018427387904) :
    Calls Try.prog 25 #[.slice (some ⟨blk, off, none⟩) ss.length cap] w fun e w' =>
      e = .returned (.tuple #[]) ∧ ∃ n os, w' = Go.Sort.grow (Go.Sort.putRow Go.Proofs.encStr (Go.Sort.ahead w n) blk off (ss.mergeSort fun x y => decide (x ≤ y)).toArray) os :=
  Go.Proofs.Any.slices_Sort_string Go.Proofs.Try.LLays_n190 blk off cap ss w hH hblk hsz
theorem sort_none (p : Option Addr) (cap : Nat) (w : World) : Calls Try.prog 25 #[.slice p 0 cap] w fun e w' => e = .returned (.tuple #[]) ∧ w' = w :=
  Go.Proofs.Any.slices_Sort_string_none Go.Proofs.Try.LLays_n190 p cap w
theorem compact_at (blk off cap : Nat) (zs : List (List UInt8)) (w : World) (hH : Sort.Holds Go.Proofs.encStr w blk off zs.toArray) (hsz : zs.length ≤ 9223372036854775807) (hcap : zs.length ≤ cap) :
    Calls Try.prog 26 #[.slice (some ⟨blk, off, none⟩) zs.length cap] w fun e w' => e = .returned (.slice (some ⟨blk, off, none⟩) (Lib.compact zs).length cap) ∧ ∃ q, w' = Go.Sort.putRow Go.Proofs.encStr (Go.Sort.ahead w q) blk off (Lib.compact zs ++ List.replicate (zs.length - (Lib.compact zs).length) []).toArray :=
  Go.Proofs.Any.slices_Compact_string Go.Proofs.Try.LLays_n194 blk off cap zs w hH hsz hcap
theorem compact_none (a : Option Addr) (cap : Nat) (w : World) : Calls Try.prog 26 #[.slice a 0 cap] w fun e w' => e = .returned (.slice a 0 cap) ∧ w' = w :=
  Go.Proofs.Any.slices_Compact_string_empty Go.Proofs.Try.LLays_n194 a cap w

theorem slices_Sort_string_string.calls (P0_ : Nat → Prop) (u9000_ : Value) (l0 : List ByteArray) (r : List ByteArray) (w0 w : World) (hB : Below w0.heap.size w0 w) (ho0 : Kd.R Kd.string 9 w w0.heap.size P0_ u9000_ l0) (h : slices_Sort_string_string.f l0 = some r) :
    Calls Try.prog 25 #[u9000_] w fun e w' => e = .returned (.tuple #[]) ∧ Kd.R Kd.string 9 w' w0.heap.size (fun k_ => (P0_ k_ ∨ w.heap.size ≤ k_)) u9000_ r ∧ Below w0.heap.size w0 w' ∧ Kept w w' (fun k_ => P0_ k_) := by
  unfold slices_Sort_string_string.f at h
  by_cases hbig : l0.length < 4611686018427387904
  case neg => rw [if_neg hbig] at h; cases h
  rw [if_pos hbig] at h
  obtain rfl := Option.some.inj h
  by_cases hv : u9000_ = .slice none 0 0
  · subst hv
    have hl : l0 = [] := List.eq_nil_of_length_eq_zero ((Kd.R_reads' ho0).1).symm
    subst hl
    refine (sort_none none 0 w).mono ?_
    rintro e w' ⟨rfl, rfl⟩
    exact ⟨rfl, by have : sortS [] = [] := by simp [sortS]
                   rw [this]; exact Kd.R_nil _ _ _ _ _, hB, Kept.refl _ _⟩
  · obtain ⟨g, cap, cur, rfl, hb, hok, hg, hn, hm, hs, hH, hown⟩ := holds_row ho0 hv
    have hlt : g < w.heap.size := (Array.getElem?_eq_some_iff.1 hg).1
    have hlm : (l0.map (fun x : ByteArray => x.data.toList)).length = l0.length := by simp
    have hc := sort_at g 0 cap (l0.map (fun x : ByteArray => x.data.toList)) w hH hlt (by rw [hlm]; exact hbig)
    rw [hlm] at hc
    refine hc.mono ?_
    rintro e w' ⟨rfl, n, os, rfl⟩
    have hgr := Go.grownBy_sorted (w := w) (g := g) (n := n) (os := os) ((l0.map (fun x : ByteArray => x.data.toList)).mergeSort fun x y => decide (x ≤ y)).toArray
    refine ⟨rfl, ?_, hB.grown hgr hB.size (fun k hk => by cases hk; exact hb), ?_⟩
    · have ho := Go.ownsRow_sorted (w := w) (n := n) (os := os) (ss := l0.map (·.data.toList)) (ts := (l0.map (fun x : ByteArray => x.data.toList)).mergeSort fun x y => decide (x ≤ y)) (by simp) hb hg (by rw [hlm]; exact hn) hm hs
      rw [hlm, encStr_txt] at ho
      refine Kd.R_of_own ?_ (fun k hk => .inl (ho0.1 k hk))
      rw [sortS_length]
      exact ho
    · exact Kept.of_grown hgr (Kept.refl _ _) (fun k hk => by cases hk; exact .inl hok)
theorem compactS_length (l : List ByteArray) : (compactS l).length = (Lib.compact (l.map (·.data.toList))).length := by simp [compactS]
theorem slices_Compact_string_string.calls (P0_ : Nat → Prop) (u9000_ : Value) (l0 : List ByteArray) (r : List ByteArray) (w0 w : World) (hB : Below w0.heap.size w0 w) (ho0 : Kd.R Kd.string 9 w w0.heap.size P0_ u9000_ l0) (h : slices_Compact_string_string.f l0 = some r) :
    Calls Try.prog 26 #[u9000_] w fun e w' => ∃ v0_ : Value, e = .returned (v0_) ∧ Kd.R Kd.string 9 w' w0.heap.size (fun k_ => (P0_ k_ ∨ w.heap.size ≤ k_)) v0_ r ∧ Below w0.heap.size w0 w' ∧ Kept w w' (fun k_ => P0_ k_) := by
  unfold slices_Compact_string_string.f at h
  by_cases hbig : l0.length < 4611686018427387904
  case neg => rw [if_neg hbig] at h; cases h
  rw [if_pos hbig] at h
  obtain rfl := Option.some.inj h
  by_cases hv : u9000_ = .slice none 0 0
  · subst hv
    have hl : l0 = [] := List.eq_nil_of_length_eq_zero ((Kd.R_reads' ho0).1).symm
    subst hl
    refine (compact_none none 0 w).mono ?_
    rintro e w' ⟨rfl, rfl⟩
    exact ⟨_, rfl, by have : compactS [] = [] := by simp [compactS, Lib.compact, Lib.compactUpTo]
                      rw [this]; exact Kd.R_nil _ _ _ _ _, hB, Kept.refl _ _⟩
  · obtain ⟨g, cap, cur, rfl, hb, hok, hg, hn, hm, hs, hH, hown⟩ := holds_row ho0 hv
    have hlt : g < w.heap.size := (Array.getElem?_eq_some_iff.1 hg).1
    have hlm : (l0.map (fun x : ByteArray => x.data.toList)).length = l0.length := by simp
    have hc := compact_at g 0 cap (l0.map (fun x : ByteArray => x.data.toList)) w hH (by rw [hlm]; omega) (by rw [hlm]; exact hn)
    rw [hlm] at hc
    refine hc.mono ?_
    rintro e w' ⟨rfl, q, rfl⟩
    have hle := Lib.compact_length_le (l0.map (fun x : ByteArray => x.data.toList))
    rw [hlm] at hle
    have hgr : w.grownBy (Go.Sort.putRow Go.Proofs.encStr (Go.Sort.ahead w q) g 0 (Lib.compact (l0.map (fun x : ByteArray => x.data.toList)) ++ List.replicate (l0.length - (Lib.compact (l0.map (fun x : ByteArray => x.data.toList))).length) []).toArray) (some g) := by
      refine ⟨rfl, rfl, rfl, by simp [Go.Sort.putRow, Go.Sort.mapBlock, Go.Sort.ahead], fun k hk hne => ?_⟩
      have : g ≠ k := fun e => hne (by rw [e])
      simp [Go.Sort.putRow, Go.Sort.mapBlock, Go.Sort.ahead, Array.getElem?_modify, this]
    refine ⟨_, rfl, ?_, hB.grown hgr hB.size (fun k hk => by cases hk; exact hb), ?_⟩
    · have ho := Go.Lib.ownsRow_putRow (q := q) (k := (Lib.compact (l0.map (fun x : ByteArray => x.data.toList))).length) (ys := Lib.compact (l0.map (fun x : ByteArray => x.data.toList)) ++ List.replicate (l0.length - (Lib.compact (l0.map (fun x : ByteArray => x.data.toList))).length) []) hown (by simp; omega) hle
      rw [List.take_left', encStr_txt] at ho
      · refine Kd.R_of_own ?_ (fun k hk => .inl (ho0.1 k hk))
        rw [compactS_length]
        exact ho
      · rfl
    · exact Kept.of_grown hgr (Kept.refl _ _) (fun k hk => by cases hk; exact .inl hok)
end Go.Proofs.Ytnjkdnbmpldokaa.P
