import PyProof.Rows.All
import Wide.All
import OpenK.AllK
import Wide.FinOn
import Open.SpecLaws
import KE.OsHead
import KE.OsGo
import HandS.ForSpec
import HandS.Comp
import HandS.Iter
import HandS.Style
import HandS.Wide
import PySem.Challenge.RW_pagestraight_s05_st_straight
set_option Elab.async false
set_option linter.all false
set_option maxRecDepth 100000
set_option maxHeartbeats 2000000
namespace Pg
theorem asked_straight {k d w h : Int} {l : List Int} (q : PySh57.st_straight_asked k d w h l = true) : (if (Sh57.straightOk k.toNat d.toNat w.toNat h.toNat) = true then l.length == (h.toNat * ((w.toNat + 31) / 32)) else (l.isEmpty) || (l.length == (h.toNat * ((w.toNat + 31) / 32)))) = true := by
  have z := (Bool.and_eq_true_iff.mp (show (Sh57Neutral.asked1 [[4, k, d, w, h], l] && _) = true from q)).1
  simp only [Sh57Neutral.asked1] at z
  exact (Bool.and_eq_true_iff.mp (Bool.and_eq_true_iff.mp (Bool.and_eq_true_iff.mp (Bool.and_eq_true_iff.mp (Bool.and_eq_true_iff.mp z).2).2).2).2).2
end Pg
namespace Pg
/-! ### plain laws of rows of numbers -/
theorem take_snoc {α : Type} {l : List α} {i : Nat} {x : α} (h : l[i]? = some x) : l.take (i + 1) = l.take i ++ [x] := by
  rw [List.take_add_one, h]
  rfl
/-- of the first so many neighbours the squares of how far they are apart -/
def sq (ns : List Nat) : Nat → Int
  | 0 => 0
  | i + 1 => sq ns i + ((ns.getD (i + 1) 0 : Nat) - (ns.getD i 0 : Nat) : Int) * ((ns.getD (i + 1) 0 : Nat) - (ns.getD i 0 : Nat) : Int)
theorem sq_apart (a b : Nat) : (((max a b - min a b) * (max a b - min a b) : Nat) : Int) = ((b : Int) - (a : Int)) * ((b : Int) - (a : Int)) := by
  rcases Nat.le_total a b with h | h
  · rw [Nat.max_eq_right h, Nat.min_eq_left h, Int.natCast_mul, Int.natCast_sub h]
  · rw [Nat.max_eq_left h, Nat.min_eq_right h, Int.natCast_mul, Int.natCast_sub h]
    rw [← Int.neg_sub (a : Int) (b : Int), Int.neg_mul_neg]
theorem sq_take (ns : List Nat) : ∀ i, i ≤ ns.length - 1 → ((((ns.zip (ns.drop 1)).take i).map fun p => (max p.1 p.2 - min p.1 p.2) * (max p.1 p.2 - min p.1 p.2)).sum : Nat) = sq ns i
  | 0, _ => by simp [sq]
  | i + 1, h => by
    have h1 : i < ns.length := by omega
    have h2 : i + 1 < ns.length := by omega
    have e : (ns.zip (ns.drop 1))[i]? = some (ns[i], ns[i + 1]) := by
      rw [List.getElem?_zip_eq_some]
      refine ⟨List.getElem?_eq_getElem h1, ?_⟩
      rw [List.getElem?_drop, Nat.add_comm 1 i]
      exact List.getElem?_eq_getElem h2
    rw [take_snoc e, List.map_append, List.sum_append, Int.natCast_add, sq_take ns i (by omega)]
    have z : (([(ns[i], ns[i + 1])].map fun p : Nat × Nat => (max p.1 p.2 - min p.1 p.2) * (max p.1 p.2 - min p.1 p.2)).sum : Nat) = (max ns[i] ns[i + 1] - min ns[i] ns[i + 1]) * (max ns[i] ns[i + 1] - min ns[i] ns[i + 1]) := by simp
    rw [z, sq_apart]
    show _ = sq ns i + _
    simp [List.getD_eq_getElem?_getD, h1, h2]
theorem sharp_is (ns : List Nat) : (Sh57.sharp ns : Int) = sq ns (ns.length - 1) := by
  rw [← sq_take ns (ns.length - 1) (Nat.le_refl _)]
  unfold Sh57.sharp
  rw [List.take_of_length_le (by rw [List.length_zip, List.length_drop]; omega)]

/-! ### pieces of a row of truths -/
/-- the pieces from place i on, s: where the open one begins -/
def pc : List Bool → Nat → Option Nat → List (Nat × Nat)
  | [], _, none => []
  | [], i, some s => [(s, i - s)]
  | true :: r, i, none => pc r (i + 1) (some i)
  | true :: r, i, some s => pc r (i + 1) (some s)
  | false :: r, i, none => pc r (i + 1) none
  | false :: r, i, some s => (s, i - s) :: pc r (i + 1) none
def gapF (most : Nat) (g : List (Nat × Nat)) (a : Nat × Nat) : List (Nat × Nat) := if most < a.1 then g else match g with
  | [] => [(a.2, 1)]
  | p :: q => if p.1 + p.2 = a.2 then (p.1, p.2 + 1) :: q else (a.2, 1) :: g
theorem gap_fold (most : Nat) : ∀ (l : List Nat) (i : Nat) (g : List (Nat × Nat)),
    ((∀ p q, g = p :: q → p.1 + p.2 < i) → ((l.zipIdx i).foldl (gapF most) g).reverse = g.reverse ++ pc (l.map fun n => decide (n ≤ most)) i none) ∧
    (∀ s q, g = (s, i - s) :: q → s < i → ((l.zipIdx i).foldl (gapF most) g).reverse = q.reverse ++ pc (l.map fun n => decide (n ≤ most)) i (some s))
  | [], i, g => by
    refine ⟨fun _ => by simp [pc], fun s q e _ => ?_⟩
    subst e
    simp [pc]
  | x :: l, i, g => by
    have ih := gap_fold most l (i + 1)
    refine ⟨fun h => ?_, fun s q e hs => ?_⟩
    · rw [List.zipIdx_cons, List.foldl_cons]
      by_cases hx : most < x
      · have e1 : gapF most g (x, i) = g := if_pos hx
        rw [e1, List.map_cons, decide_eq_false (by omega : ¬ x ≤ most)]
        exact (ih g).1 fun p q e => Nat.lt_succ_of_lt (h p q e)
      · have e1 : gapF most g (x, i) = (i, 1) :: g := by
          unfold gapF
          rw [if_neg hx]
          cases g with
          | nil => rfl
          | cons p q =>
            have z := h p q rfl
            exact if_neg (show ¬ p.1 + p.2 = i by omega)
        rw [e1, List.map_cons, decide_eq_true (by omega : x ≤ most)]
        exact (ih ((i, 1) :: g)).2 i g (by rw [Nat.add_sub_cancel_left]) (Nat.lt_succ_self _)
    · subst e
      rw [List.zipIdx_cons, List.foldl_cons]
      by_cases hx : most < x
      · have e1 : gapF most ((s, i - s) :: q) (x, i) = (s, i - s) :: q := if_pos hx
        rw [e1, List.map_cons, decide_eq_false (by omega : ¬ x ≤ most)]
        have z := (ih ((s, i - s) :: q)).1 fun p q e => by
          cases e
          show s + (i - s) < i + 1
          omega
        rw [z]
        simp [pc]
      · have e1 : gapF most ((s, i - s) :: q) (x, i) = (s, i + 1 - s) :: q := by
          unfold gapF
          rw [if_neg hx]
          show (if s + (i - s) = i then (s, i - s + 1) :: q else (i, 1) :: (s, i - s) :: q) = _
          rw [if_pos (by omega), show i - s + 1 = i + 1 - s by omega]
        rw [e1, List.map_cons, decide_eq_true (by omega : x ≤ most)]
        exact (ih ((s, i + 1 - s) :: q)).2 s q rfl (by omega)
theorem gaps_is (most : Nat) (l : List Nat) : Sh57.gaps most l = pc (l.map fun n => decide (n ≤ most)) 0 none :=
  ((gap_fold most l 0 []).1 fun p q e => nomatch e).trans (by simp)
theorem pc_end (i s : Nat) : pc [] i (some s) = [(s, i - s)] := rfl
/-- pieces that lie apart, from b on, up to n -/
def Sep (n : Nat) : Nat → List (Nat × Nat) → Prop
  | _, [] => True
  | b, c :: r => b ≤ c.1 ∧ 1 ≤ c.2 ∧ c.1 + c.2 ≤ n ∧ Sep n (c.1 + c.2) r
theorem Sep.weak {n : Nat} : ∀ {C : List (Nat × Nat)} {b b' : Nat}, Sep n b C → b' ≤ b → Sep n b' C
  | [], _, _, _, _ => trivial
  | _ :: _, _, _, h, hb => ⟨Nat.le_trans hb h.1, h.2⟩
theorem Sep.filter {n : Nat} (p : Nat × Nat → Bool) : ∀ {C : List (Nat × Nat)} {b : Nat}, Sep n b C → Sep n b (C.filter p)
  | [], _, _ => trivial
  | c :: r, b, h => by
    have ih := Sep.filter p h.2.2.2
    rw [List.filter_cons]
    by_cases hp : p c = true
    · rw [if_pos hp]
      exact ⟨h.1, h.2.1, h.2.2.1, ih⟩
    · rw [if_neg hp]
      exact ih.weak (by have := h.1; omega)
theorem pc_sep : ∀ (m : List Bool) (i n : Nat), i + m.length = n → Sep n i (pc m i none) ∧ ∀ s, s < i → Sep n s (pc m i (some s))
  | [], i, n, h => ⟨trivial, fun s hs => ⟨Nat.le_refl _, by show 1 ≤ i - s; omega, by have h : i + 0 = n := h; show s + (i - s) ≤ n; omega, trivial⟩⟩
  | true :: r, i, n, h => by
    have h : i + (r.length + 1) = n := h
    have ih := pc_sep r (i + 1) n (by omega)
    exact ⟨ih.2 i (Nat.lt_succ_self _), fun s hs => ih.2 s (by omega)⟩
  | false :: r, i, n, h => by
    have h : i + (r.length + 1) = n := h
    have ih := pc_sep r (i + 1) n (by omega)
    refine ⟨ih.1.weak (Nat.le_succ _), fun s hs => ⟨Nat.le_refl _, by show 1 ≤ i - s; omega, by show s + (i - s) ≤ n; omega, ?_⟩⟩
    show Sep n (s + (i - s)) (pc r (i + 1) none)
    exact ih.1.weak (by omega)
theorem gaps_sep (most : Nat) (l : List Nat) : Sep l.length 0 (Sh57.gaps most l) := by
  rw [gaps_is]
  exact (pc_sep _ 0 l.length (by simp)).1
/-- what lies between the pieces -/
def between (n : Nat) : Nat → List (Nat × Nat) → List (Nat × Nat)
  | b, [] => if b < n then [(b, n - b)] else []
  | b, c :: r => (if b < c.1 then [(b, c.1 - b)] else []) ++ between n (c.1 + c.2) r
theorem bands_is (n : Nat) : ∀ (C : List (Nat × Nat)) (b : Nat),
    ((((b :: C.map fun g => g.1 + g.2).zip ((C.map fun g => g.1) ++ [n])).filter fun p => decide (p.1 < p.2)).map fun p => (p.1, p.2 - p.1)) = between n b C
  | [], b => by
    by_cases h : b < n <;> simp [between, h]
  | c :: r, b => by
    have ih := bands_is n r (c.1 + c.2)
    unfold between
    rw [← ih]
    by_cases h : b < c.1 <;> simp [h]
/-- place i is in none of the pieces -/
def outside (C : List (Nat × Nat)) (i : Nat) : Bool := !(C.any fun c => decide (c.1 ≤ i) && decide (i < c.1 + c.2))
theorem pc_trues (r : List Bool) : ∀ (k i : Nat) (s : Nat), pc (List.replicate k true ++ r) i (some s) = pc r (i + k) (some s)
  | 0, i, s => rfl
  | k + 1, i, s => by
    rw [List.replicate_succ, List.cons_append]
    show pc (List.replicate k true ++ r) (i + 1) (some s) = _
    rw [pc_trues r k (i + 1) s, Nat.add_assoc, Nat.add_comm 1 k]
theorem pc_trues0 (r : List Bool) (k i : Nat) (h : 0 < k) : pc (List.replicate k true ++ r) i none = pc r (i + k) (some i) := by
  obtain ⟨j, rfl⟩ : ∃ j, k = j + 1 := ⟨k - 1, by omega⟩
  rw [List.replicate_succ, List.cons_append]
  show pc (List.replicate j true ++ r) (i + 1) (some i) = _
  rw [pc_trues, Nat.add_assoc, Nat.add_comm 1 j]
theorem pc_falses (r : List Bool) : ∀ (k i : Nat), pc (List.replicate k false ++ r) i none = pc r (i + k) none
  | 0, i => rfl
  | k + 1, i => by
    rw [List.replicate_succ, List.cons_append]
    show pc (List.replicate k false ++ r) (i + 1) none = _
    rw [pc_falses r k (i + 1), Nat.add_assoc, Nat.add_comm 1 k]
theorem pc_falses0 (r : List Bool) (k i s : Nat) (h : 0 < k) : pc (List.replicate k false ++ r) i (some s) = (s, i - s) :: pc r (i + k) none := by
  obtain ⟨j, rfl⟩ : ∃ j, k = j + 1 := ⟨k - 1, by omega⟩
  rw [List.replicate_succ, List.cons_append]
  show (s, i - s) :: pc (List.replicate j false ++ r) (i + 1) none = _
  rw [pc_falses, Nat.add_assoc, Nat.add_comm 1 j]
theorem map_rep {f : Nat → Bool} {v : Bool} (b k : Nat) (h : ∀ i, b ≤ i → i < b + k → f i = v) : (List.range' b k).map f = List.replicate k v := by
  rw [List.map_congr_left (g := fun _ => v), List.map_const', List.length_range']
  intro i hi
  obtain ⟨j, hj, rfl⟩ := List.mem_range'.mp hi
  exact h _ (by omega) (by omega)
theorem outside_nil (i : Nat) : outside [] i = true := rfl
theorem outside_cons (c : Nat × Nat) (C : List (Nat × Nat)) (i : Nat) : outside (c :: C) i = (!(decide (c.1 ≤ i) && decide (i < c.1 + c.2)) && outside C i) := by
  unfold outside
  rw [List.any_cons, Bool.not_or]
theorem outside_before {n : Nat} : ∀ {C : List (Nat × Nat)} {b : Nat}, Sep n b C → ∀ i, i < b → outside C i = true
  | [], _, _, _, _ => rfl
  | c :: r, b, h, i, hi => by
    have h1 : b ≤ c.1 := h.1
    rw [outside_cons, outside_before h.2.2.2 i (by omega), decide_eq_false (by omega : ¬ c.1 ≤ i)]
    rfl
theorem pc_outside (n : Nat) : ∀ (C : List (Nat × Nat)) (b : Nat), Sep n b C → b ≤ n → ∀ f : Nat → Bool, (∀ i, b ≤ i → f i = outside C i) → pc ((List.range' b (n - b)).map f) b none = between n b C
  | [], b, _, hb, f, hf => by
    rw [map_rep (v := true) b (n - b) fun i hi _ => hf i hi]
    unfold between
    by_cases h : b < n
    · rw [if_pos h]
      have z := pc_trues0 [] (n - b) b (by omega)
      rw [List.append_nil] at z
      rw [z, show b + (n - b) = n by omega]
      rfl
    · rw [if_neg h, show n - b = 0 by omega]
      rfl
  | c :: r, b, h, hb, f, hf => by
    obtain ⟨h1, h2, h3, h4⟩ := h
    have ih := pc_outside n r (c.1 + c.2) h4 h3 f fun i hi => by
      rw [hf i (by omega), outside_cons, decide_eq_false (by omega : ¬ i < c.1 + c.2), Bool.and_false]
      rfl
    have s1 : List.range' b (n - b) = List.range' b (c.1 - b) ++ (List.range' c.1 c.2 ++ List.range' (c.1 + c.2) (n - (c.1 + c.2))) := by
      rw [List.range'_append_1, show c.2 + (n - (c.1 + c.2)) = n - c.1 by omega]
      have z := List.range'_append_1 (s := b) (m := c.1 - b) (n := n - c.1)
      rw [show b + (c.1 - b) = c.1 by omega] at z
      rw [z, show c.1 - b + (n - c.1) = n - b by omega]
    rw [s1, List.map_append, List.map_append, map_rep (v := true) b (c.1 - b) fun i hi hi2 => ?_, map_rep (v := false) c.1 c.2 fun i hi hi2 => ?_]
    · unfold between
      by_cases hl : b < c.1
      · rw [if_pos hl, pc_trues0 _ _ _ (by omega), pc_falses0 _ _ _ _ (by omega), show b + (c.1 - b) = c.1 by omega, ih]
        rfl
      · rw [if_neg hl, show c.1 - b = 0 by omega]
        have hc : c.1 = b := by omega
        show pc (List.replicate c.2 false ++ _) b none = _
        rw [pc_falses, ← hc, ih]
        rfl
    · rw [hf i (by omega), outside_cons, decide_eq_true (by omega : c.1 ≤ i), decide_eq_true (by omega : i < c.1 + c.2)]
      rfl
    · rw [hf i hi, outside_cons, decide_eq_false (by omega : ¬ c.1 ≤ i), outside_before h4 i (by omega)]
      rfl
theorem bands_pc (most least : Nat) (l : List Nat) : Sh57.bands most least l = pc ((List.range l.length).map (outside ((Sh57.gaps most l).filter fun g => decide (least ≤ g.2)))) 0 none := by
  rw [List.range_eq_range', show l.length = l.length - 0 from rfl, pc_outside l.length ((Sh57.gaps most l).filter fun g => decide (least ≤ g.2)) 0 ((gaps_sep most l).filter _) (Nat.zero_le _) _ (fun i _ => rfl)]
  exact bands_is l.length _ 0
end Pg
namespace Pg
/-! ### smoothed rows, hills, margins -/
/-- the sum of the first so many -/
def pre (l : List Nat) (i : Nat) : Nat := (l.take i).sum
theorem pre_succ {l : List Nat} {i : Nat} (h : i < l.length) : pre l (i + 1) = pre l i + l.getD i 0 := by
  unfold pre
  rw [take_snoc (List.getElem?_eq_getElem h), List.sum_append]
  simp [h]
theorem pre_over {l : List Nat} {i : Nat} (h : l.length ≤ i) : pre l i = pre l l.length := by
  unfold pre
  rw [List.take_of_length_le h, List.take_length]
theorem pre_min (l : List Nat) (i : Nat) : pre l i = pre l (min l.length i) := by
  rcases Nat.le_total l.length i with h | h
  · rw [pre_over h, Nat.min_eq_left h]
  · rw [Nat.min_eq_right h]
theorem pre_mid (l : List Nat) {a m : Nat} (h : a ≤ m) : ((l.take m).drop a).sum + pre l a = pre l m := by
  unfold pre
  have e := congrArg List.sum (List.take_append_drop a (l.take m))
  rw [List.sum_append, List.take_take, Nat.min_eq_left h] at e
  omega
theorem pre_mono (l : List Nat) {a m : Nat} (h : a ≤ m) : pre l a ≤ pre l m := by
  have := pre_mid l h
  omega
/-- one smoothed number -/
def smo (d : Nat) (l : List Nat) (i : Nat) : Nat := (pre l (min l.length (i + d + 1)) - pre l (i - d)) / (min l.length (i + d + 1) - (i - d))
theorem smoothed_is (d : Nat) (l : List Nat) : Sh57.smoothed d l = (List.range l.length).map (smo d l) := by
  unfold Sh57.smoothed
  refine List.map_congr_left fun i hi => ?_
  have hi : i < l.length := List.mem_range.mp hi
  show ((l.take (i + d + 1)).drop (i - d)).sum / ((l.take (i + d + 1)).drop (i - d)).length = _
  unfold smo
  have e := pre_mid l (a := i - d) (m := i + d + 1) (by omega)
  rw [← pre_min l (i + d + 1), List.length_drop, List.length_take, Nat.min_comm]
  congr 1
  omega
theorem smo_int (d : Nat) (l : List Nat) {i : Nat} (_hi : i < l.length) : ((smo d l i : Nat) : Int) = ((pre l (min l.length (i + d + 1)) : Int) - (pre l (i - d) : Int)) / (((min l.length (i + d + 1) : Nat) : Int) - ((i - d : Nat) : Int)) := by
  unfold smo
  rw [Int.natCast_ediv, Int.natCast_sub (pre_mono l (by omega)), Int.natCast_sub (by omega)]

def hillAt (l : List Nat) (i : Nat) : Bool := decide ((if i = 0 then 0 else l.getD (i - 1) 0) < l.getD i 0) && decide (l.getD (i + 1) 0 ≤ l.getD i 0)
theorem hills_is (l : List Nat) : Sh57.hills l = (List.range l.length).filter (hillAt l) := rfl
theorem filter_range_succ (p : Nat → Bool) (i : Nat) : (List.range (i + 1)).filter p = (List.range i).filter p ++ if p i = true then [i] else [] := by
  rw [List.range_succ, List.filter_append]
  by_cases h : p i = true
  · rw [if_pos h, List.filter_cons, if_pos h]
    rfl
  · rw [if_neg h, List.filter_cons, if_neg h]
    rfl

theorem margin_drop {most : Nat} {l : List Nat} {i : Nat} (h : i < l.length) : Sh57.margin most (l.drop i) = if l.getD i 0 ≤ most then Sh57.margin most (l.drop (i + 1)) + 1 else 0 := by
  have e : l.getD i 0 = l[i] := by simp [h]
  rw [List.drop_eq_getElem_cons h, e]
  unfold Sh57.margin
  rw [List.takeWhile_cons]
  by_cases hx : l[i] ≤ most <;> simp [hx]
theorem margin_nil (most : Nat) (l : List Nat) : Sh57.margin most (l.drop l.length) = 0 := by
  rw [List.drop_length]
  rfl
end Pg
namespace Pg
/-! ### pages as functions of column and row -/
theorem flat_len {α : Type} (w : Nat) (F : Nat → List α) (hF : ∀ r, (F r).length = w) : ∀ h, ((List.range h).flatMap F).length = h * w
  | 0 => by simp
  | h + 1 => by
    rw [List.range_succ, List.flatMap_append, List.length_append, flat_len w F hF h, Nat.succ_mul]
    simp [hF]
theorem flat_get {α : Type} (w : Nat) (F : Nat → List α) (hF : ∀ r, (F r).length = w) : ∀ h r c, r < h → c < w → ((List.range h).flatMap F)[r * w + c]? = (F r)[c]?
  | 0, _, _, hr, _ => by omega
  | h + 1, r, c, hr, hc => by
    rw [List.range_succ, List.flatMap_append]
    have hl := flat_len w F hF h
    by_cases e : r < h
    · have hb : r * w + c < h * w := by
        have : (r + 1) * w ≤ h * w := Nat.mul_le_mul_right w e
        rw [Nat.succ_mul] at this
        omega
      rw [List.getElem?_append_left (by omega)]
      exact flat_get w F hF h r c e hc
    · have e' : r = h := by omega
      subst e'
      rw [List.getElem?_append_right (by omega), hl, Nat.add_sub_cancel_left]
      simp
theorem each_dot (w h : Nat) (f : Nat → Nat → Bool) (c r : Nat) : Sh57.dot w h (Sh57.each w h f).toArray c r = (decide (c < w) && (decide (r < h) && f c r)) := by
  unfold Sh57.dot
  by_cases hc : c < w
  · by_cases hr : r < h
    · rw [decide_eq_true hc, decide_eq_true hr, Bool.true_and, Bool.true_and, Bool.true_and, Bool.true_and]
      have e := flat_get w (fun r => (List.range w).map fun c => f c r) (fun r => by simp) h r c hr hc
      have e2 : (Sh57.each w h f)[r * w + c]? = some (f c r) := by
        show ((List.range h).flatMap _)[r * w + c]? = _
        rw [e]
        simp [hc]
      simp [e2]
    · rw [decide_eq_false hr]
      simp
  · rw [decide_eq_false hc]
    simp
/-- bit c of row r of a page's words -/
def bitOf (w : Nat) (d : List Nat) (c r : Nat) : Bool := d.getD (r * Sh57.wide w + c / 32) 0 / 2 ^ (c % 32) % 2 == 1
theorem page_is (w h : Nat) (d : List Nat) : Sh57.page w h d = Sh57.each w h (bitOf w d) := by
  show (List.range h).flatMap _ = (List.range h).flatMap _
  unfold bitOf
  simp
/-- the dot at a place told by whole numbers; beyond the page none -/
def thereG (w h : Nat) (f : Nat → Nat → Bool) (c r : Int) : Bool := decide (0 ≤ c) && (decide (0 ≤ r) && (decide (c.toNat < w) && (decide (r.toNat < h) && f c.toNat r.toNat)))
theorem there_is (w h : Nat) (f : Nat → Nat → Bool) (c r : Int) : Sh57.there w h (Sh57.each w h f).toArray c r = thereG w h f c r := by
  unfold Sh57.there thereG
  rw [each_dot]
def shG (w h : Nat) (k : Int) (d : Nat) (f : Nat → Nat → Bool) (c r : Nat) : Bool := thereG w h f (c : Int) ((r : Int) - Sh57.shift w k d c)
def slG (w h : Nat) (k : Int) (d : Nat) (f : Nat → Nat → Bool) (c r : Nat) : Bool := thereG w h f ((c : Int) - Sh57.shift h k d r) (r : Int)
def roG (w h : Nat) (k : Int) (d : Nat) (f : Nat → Nat → Bool) (c r : Nat) : Bool := thereG w h f (c : Int) (((r : Int) - Sh57.shift w k d c) % (h : Int))
def quG (h : Nat) (f : Nat → Nat → Bool) (c r : Nat) : Bool := f r (h - 1 - c)
theorem each_congr {w h : Nat} {f g : Nat → Nat → Bool} (e : ∀ c r, c < w → r < h → f c r = g c r) : Sh57.each w h f = Sh57.each w h g := by
  unfold Sh57.each
  rw [List.flatMap_def, List.flatMap_def]
  congr 1
  refine List.map_congr_left fun r hr => List.map_congr_left fun c hc => e c r (List.mem_range.mp hc) (List.mem_range.mp hr)
theorem sheared_is (w h : Nat) (k : Int) (d : Nat) (f : Nat → Nat → Bool) : Sh57.sheared w h k d (Sh57.each w h f) = Sh57.each w h (shG w h k d f) := each_congr fun c r _ _ => there_is w h f _ _
theorem slanted_is (w h : Nat) (k : Int) (d : Nat) (f : Nat → Nat → Bool) : Sh57.slanted w h k d (Sh57.each w h f) = Sh57.each w h (slG w h k d f) := each_congr fun c r _ _ => there_is w h f _ _
theorem rolled_is (w h : Nat) (k : Int) (d : Nat) (f : Nat → Nat → Bool) : Sh57.rolled w h k d (Sh57.each w h f) = Sh57.each w h (roG w h k d f) := each_congr fun c r hc hr => by
  have hp : (0 : Int) < h := by omega
  have h0 := Int.emod_nonneg ((r : Int) - Sh57.shift w k d c) (Int.ne_of_gt hp)
  unfold roG thereG
  rw [each_dot, decide_eq_true (by omega : (0 : Int) ≤ (c : Int)), decide_eq_true h0]
  simp
theorem quarter_is (w h : Nat) (f : Nat → Nat → Bool) : Sh57.quarter w h (Sh57.each w h f) = Sh57.each h w (quG h f) := each_congr fun c r hc hr => by
  rw [each_dot, decide_eq_true hr, decide_eq_true (by omega : h - 1 - c < h)]
  rfl
/-- a word of a row -/
def wsum (w : Nat) (g : Nat → Bool) (k : Nat) : Nat := ((List.range 32).map fun j => if (decide (32 * k + j < w) && g (32 * k + j)) = true then 2 ^ j else 0).sum
theorem words_is (w h : Nat) (f : Nat → Nat → Bool) : Sh57.words w h (Sh57.each w h f) = (List.range h).flatMap fun r => (List.range (Sh57.wide w)).map fun k => wsum w (fun c => f c r) k := by
  show (List.range h).flatMap (fun r => (List.range (Sh57.wide w)).map fun k => ((List.range 32).map fun j => if Sh57.dot w h (Sh57.each w h f).toArray (32 * k + j) r = true then 2 ^ j else 0).sum) = _
  rw [List.flatMap_def, List.flatMap_def]
  refine congrArg List.flatten (List.map_congr_left fun r hr => List.map_congr_left fun k _ => ?_)
  have hr : r < h := List.mem_range.mp hr
  unfold wsum
  refine congrArg List.sum (List.map_congr_left fun j _ => ?_)
  rw [each_dot, decide_eq_true hr, Bool.true_and]
/-- how many of the first so many -/
def cnt (n : Nat) (g : Nat → Bool) : Nat := Sh57.many ((List.range n).map g)
theorem cnt_zero (g : Nat → Bool) : cnt 0 g = 0 := rfl
theorem cnt_succ (n : Nat) (g : Nat → Bool) : cnt (n + 1) g = cnt n g + if g n = true then 1 else 0 := by
  unfold cnt Sh57.many
  rw [List.range_succ, List.map_append, List.filter_append, List.length_append]
  cases e : g n <;> simp [e]
theorem cnt_congr {n : Nat} {g g' : Nat → Bool} (e : ∀ i, i < n → g i = g' i) : cnt n g = cnt n g' := by
  unfold cnt
  congr 1
  exact List.map_congr_left fun i hi => e i (List.mem_range.mp hi)
theorem cnt_le (n : Nat) (g : Nat → Bool) : cnt n g ≤ n := by
  unfold cnt Sh57.many
  refine Nat.le_trans (List.length_filter_le _ _) ?_
  simp
theorem rowCounts_is (w h : Nat) (f : Nat → Nat → Bool) : Sh57.rowCounts w h (Sh57.each w h f) = (List.range h).map fun r => cnt w fun c => f c r := by
  refine List.map_congr_left fun r hr => cnt_congr fun c hc => ?_
  rw [each_dot, decide_eq_true hc, decide_eq_true (List.mem_range.mp hr)]
  rfl
theorem columnCounts_is (w h : Nat) (f : Nat → Nat → Bool) : Sh57.columnCounts w h (Sh57.each w h f) = (List.range w).map fun c => cnt h fun r => f c r := by
  refine List.map_congr_left fun c hc => cnt_congr fun r hr => ?_
  rw [each_dot, decide_eq_true hr, decide_eq_true (List.mem_range.mp hc)]
  rfl
theorem shearCounts_is (w h : Nat) (k : Int) (d : Nat) (f : Nat → Nat → Bool) : Sh57.shearCounts w h k d (Sh57.each w h f) = (List.range h).map fun r => cnt w fun c => shG w h k d f c r := by
  unfold Sh57.shearCounts
  rw [sheared_is, rowCounts_is]

/-! ### bits and words as whole numbers -/
def bit (b : Bool) : Int := if b = true then 1 else 0
/-- a row of bits -/
def rowI (w : Nat) (g : Nat → Bool) : List Int := (List.range w).map fun c => bit (g c)
theorem rowI_len (w : Nat) (g : Nat → Bool) : (rowI w g).length = w := by simp [rowI]
theorem rowI_get {w c : Nat} (g : Nat → Bool) (h : c < w) : (rowI w g)[c]? = some (bit (g c)) := by simp [rowI, h]
/-- all rows of a page -/
def rowsI (w h : Nat) (f : Nat → Nat → Bool) : List (List Int) := (List.range h).map fun r => rowI w fun c => f c r
theorem rowsI_len (w h : Nat) (f : Nat → Nat → Bool) : (rowsI w h f).length = h := by simp [rowsI]
theorem rowsI_get {w h r : Nat} (f : Nat → Nat → Bool) (hr : r < h) : (rowsI w h f)[r]? = some (rowI w fun c => f c r) := by simp [rowsI, hr]
theorem row_sum (g : Nat → Bool) : ∀ n : Nat, (rowI n g).sum = ((cnt n g : Nat) : Int)
  | 0 => rfl
  | n + 1 => by
    have ih := row_sum g n
    unfold rowI at ih ⊢
    rw [List.range_succ, List.map_append, List.sum_append, ih, cnt_succ, Int.natCast_add]
    have z : ([n].map fun c => bit (g c)).sum = ((if g n = true then 1 else 0 : Nat) : Int) := by
      cases e : g n <;> simp [bit, e]
    rw [z]
/-- a word's sum so far -/
def wpart (w : Nat) (g : Nat → Bool) (k i : Nat) : Nat := ((List.range i).map fun j => if (decide (32 * k + j < w) && g (32 * k + j)) = true then 2 ^ j else 0).sum
theorem wpart_succ (w : Nat) (g : Nat → Bool) (k i : Nat) : wpart w g k (i + 1) = wpart w g k i + if (decide (32 * k + i < w) && g (32 * k + i)) = true then 2 ^ i else 0 := by
  unfold wpart
  rw [List.range_succ, List.map_append, List.sum_append]
  simp
theorem wpart_stop (w : Nat) (g : Nat → Bool) (k i : Nat) (h : w ≤ 32 * k + i) : ∀ j, wpart w g k (i + j) = wpart w g k i
  | 0 => rfl
  | j + 1 => by
    rw [← Nat.add_assoc, wpart_succ, wpart_stop w g k i h j, decide_eq_false (by omega)]
    rfl
theorem wpart_all (w : Nat) (g : Nat → Bool) (k : Nat) : wpart w g k (min 32 (w - 32 * k)) = wsum w g k := by
  show _ = wpart w g k 32
  rcases Nat.le_total 32 (w - 32 * k) with h | h
  · rw [Nat.min_eq_left h]
  · rw [Nat.min_eq_right h]
    have z := wpart_stop w g k (w - 32 * k) (by omega) (32 - (w - 32 * k))
    rw [show w - 32 * k + (32 - (w - 32 * k)) = 32 by omega] at z
    exact z.symm
theorem wsum_lt (w : Nat) (g : Nat → Bool) (k : Nat) : ∀ i, wpart w g k i < 2 ^ i
  | 0 => by simp [wpart]
  | i + 1 => by
    have ih := wsum_lt w g k i
    rw [wpart_succ, Nat.pow_succ]
    split <;> omega
/-- the bit of a word as the program reckons it -/
theorem bit_word (n j : Nat) : (((n : Int) / 2 ^ j) % 2) = bit (n / 2 ^ j % 2 == 1) := by
  have e : (2 : Int) ^ j = ((2 ^ j : Nat) : Int) := by rw [Int.natCast_pow]; rfl
  rw [e, ← Int.natCast_ediv]
  generalize n / 2 ^ j = q
  have e2 : ((q : Int) % 2) = ((q % 2 : Nat) : Int) := by rw [Int.natCast_emod]; rfl
  rw [e2]
  unfold bit
  rcases Nat.mod_two_eq_zero_or_one q with h | h <;> rw [h] <;> rfl
end Pg
namespace Pg
/-! ### counts by the dots of columns -/
def shL (n m : Nat) (k : Int) (d : Nat) (f : Nat → Nat → Bool) : List Nat := (List.range m).map fun r => cnt n fun c => shG n m k d f c r
/-- how many of the rows move to r -/
def occ (l : List Nat) (move : Int) (r : Nat) : Nat := (l.filter fun (x : Nat) => decide ((x : Int) + move = (r : Int))).length
theorem occ_nil (move : Int) (r : Nat) : occ [] move r = 0 := rfl
theorem occ_snoc (l : List Nat) (x : Nat) (move : Int) (r : Nat) : occ (l ++ [x]) move r = occ l move r + if (x : Int) + move = (r : Int) then 1 else 0 := by
  unfold occ
  rw [List.filter_append, List.length_append]
  by_cases h : (x : Int) + move = (r : Int) <;> simp [h]
theorem filter_one (p : Nat → Bool) (t : Nat) (hp : ∀ r, p r = true → r = t) : ∀ m, ((List.range m).filter p).length = if t < m ∧ p t = true then 1 else 0
  | 0 => by simp
  | m + 1 => by
    rw [filter_range_succ, List.length_append, filter_one p t hp m]
    by_cases h : p m = true
    · have e := hp m h
      subst e
      rw [if_pos h, if_neg (by omega), if_pos ⟨Nat.lt_succ_self _, h⟩]
      rfl
    · rw [if_neg h]
      by_cases h2 : t < m ∧ p t = true
      · rw [if_pos h2, if_pos ⟨by omega, h2.2⟩]
        rfl
      · rw [if_neg h2, if_neg]
        · rfl
        · rintro ⟨h3, h4⟩
          have : t ≠ m := fun e => h (e ▸ h4)
          exact h2 ⟨by omega, h4⟩
theorem thereG_row {n m : Nat} {f : Nat → Nat → Bool} {c : Nat} {r : Int} (hc : c < n) : thereG n m f (c : Int) r = (decide (0 ≤ r) && (decide (r.toNat < m) && f c r.toNat)) := by
  unfold thereG
  rw [decide_eq_true (by omega : (0 : Int) ≤ (c : Int)), Int.toNat_natCast, decide_eq_true hc, Bool.true_and, Bool.true_and]
theorem occ_col {n m : Nat} {f : Nat → Nat → Bool} {k : Int} {d c : Nat} (hc : c < n) (r : Nat) : occ ((List.range m).filter fun x => f c x) (Sh57.shift n k d c) r = if shG n m k d f c r = true then 1 else 0 := by
  unfold occ
  rw [List.filter_filter]
  by_cases h0 : 0 ≤ (r : Int) - Sh57.shift n k d c
  · have z := filter_one (fun x => decide ((x : Int) + Sh57.shift n k d c = (r : Int)) && f c x) ((r : Int) - Sh57.shift n k d c).toNat (fun x hx => by
      have := of_decide_eq_true (Bool.and_eq_true_iff.mp hx).1
      omega) m
    rw [z]
    have e : shG n m k d f c r = (decide (((r : Int) - Sh57.shift n k d c).toNat < m) && f c ((r : Int) - Sh57.shift n k d c).toNat) := by
      unfold shG
      rw [thereG_row hc, decide_eq_true h0, Bool.true_and]
    rw [e]
    have e2 : decide (((((r : Int) - Sh57.shift n k d c).toNat : Nat) : Int) + Sh57.shift n k d c = (r : Int)) = true := decide_eq_true (by omega)
    show (if ((r : Int) - Sh57.shift n k d c).toNat < m ∧ (decide (((((r : Int) - Sh57.shift n k d c).toNat : Nat) : Int) + Sh57.shift n k d c = (r : Int)) && f c ((r : Int) - Sh57.shift n k d c).toNat) = true then 1 else 0) = _
    rw [e2, Bool.true_and]
    by_cases h1 : ((r : Int) - Sh57.shift n k d c).toNat < m
    · simp [h1]
    · simp [h1]
  · have e : shG n m k d f c r = false := by
      unfold shG
      rw [thereG_row hc, decide_eq_false h0]
      rfl
    rw [e, if_neg Bool.false_ne_true]
    have : ((List.range m).filter fun (x : Nat) => decide ((x : Int) + Sh57.shift n k d c = (r : Int)) && f c x) = [] := by
      rw [List.filter_eq_nil_iff]
      intro x _ hx
      have := of_decide_eq_true (Bool.and_eq_true_iff.mp hx).1
      omega
    rw [this]
    rfl
/-- a list of counts, one more at place t -/
theorem counts_set {m t : Nat} {F F' : Nat → Nat} (ht : t < m) (h : ∀ r, r < m → F' r = F r + if r = t then 1 else 0) : ((List.range m).map F).set t (F t + 1) = (List.range m).map F' := by
  refine List.ext_getElem? fun i => ?_
  by_cases hi : i < m
  · by_cases e : t = i
    · subst e
      rw [List.getElem?_set_self (by simpa using hi)]
      simp [hi, h t hi]
    · rw [List.getElem?_set_ne e]
      simp [hi, h i hi, Ne.symm e]
  · rw [List.getElem?_eq_none (by simpa using hi), List.getElem?_eq_none (by simpa using hi)]
theorem counts_same {m : Nat} {F F' : Nat → Nat} (h : ∀ r, r < m → F' r = F r) : (List.range m).map F = (List.range m).map F' := List.map_congr_left fun r hr => (h r (List.mem_range.mp hr)).symm
end Pg
namespace Pg
/-! ### the straightest shear -/
theorem nearer_iff {a b : Int} : Sh57.nearer a b = true ↔ (a.natAbs < b.natAbs ∨ (a.natAbs = b.natAbs ∧ a < b)) := by
  unfold Sh57.nearer
  rw [Bool.or_eq_true, Bool.and_eq_true, decide_eq_true_eq, decide_eq_true_eq, decide_eq_true_eq]
theorem nearer_no {a b : Int} : Sh57.nearer a b = false ↔ ¬ (a.natAbs < b.natAbs ∨ (a.natAbs = b.natAbs ∧ a < b)) := by
  rw [← nearer_iff, Bool.not_eq_true]
structure BestOn (S : Int → Nat) (P : Int → Prop) (b : Int × Nat) : Prop where
  mem : P b.1
  val : b.2 = S b.1
  top : ∀ k, P k → S k ≤ S b.1 ∧ (S k = S b.1 → Sh57.nearer k b.1 = false)
section
variable {S : Int → Nat} {P P' : Int → Prop} {b b' : Int × Nat}
theorem BestOn.congr (h : BestOn S P b) (e : ∀ k, P' k ↔ P k) : BestOn S P' b := ⟨(e _).mpr h.mem, h.val, fun k hk => h.top k ((e k).mp hk)⟩
theorem BestOn.one (h : BestOn S P b) (h' : BestOn S P b') : b = b' := by
  obtain ⟨t1, n1⟩ := h.top _ h'.mem
  obtain ⟨t2, n2⟩ := h'.top _ h.mem
  have e : S b.1 = S b'.1 := Nat.le_antisymm t2 t1
  have m1 := nearer_no.mp (n1 e.symm)
  have m2 := nearer_no.mp (n2 e)
  have e1 : b.1 = b'.1 := by omega
  have e2 : b.2 = b'.2 := by rw [h.val, h'.val, e1]
  exact Prod.ext e1 e2
/-- a turn of the document's search -/
theorem BestOn.spec (h : BestOn S P b) (k : Int) : BestOn S (fun x => P x ∨ x = k) (if b.2 < S k ∨ (b.2 = S k ∧ Sh57.nearer k b.1 = true) then (k, S k) else b) := by
  by_cases c : b.2 < S k ∨ (b.2 = S k ∧ Sh57.nearer k b.1 = true)
  · rw [if_pos c]
    refine ⟨.inr rfl, rfl, fun x hx => ?_⟩
    rw [h.val] at c
    show S x ≤ S k ∧ (S x = S k → Sh57.nearer x k = false)
    rcases hx with hx | rfl
    · obtain ⟨t, n⟩ := h.top x hx
      rcases c with c | ⟨c1, c2⟩
      · exact ⟨by omega, fun e => by omega⟩
      · refine ⟨by omega, fun e => nearer_no.mpr ?_⟩
        have m1 := nearer_no.mp (n (by omega))
        have m2 := nearer_iff.mp c2
        omega
    · exact ⟨Nat.le_refl _, fun _ => nearer_no.mpr (by show ¬ (x.natAbs < x.natAbs ∨ (x.natAbs = x.natAbs ∧ x < x)); omega)⟩
  · rw [if_neg c]
    refine ⟨.inl h.mem, h.val, fun x hx => ?_⟩
    rcases hx with hx | rfl
    · exact h.top x hx
    · rw [h.val] at c
      refine ⟨?_, fun e => ?_⟩
      · exact Nat.le_of_not_lt fun z => c (.inl z)
      · cases e2 : Sh57.nearer x b.1 with
        | false => rfl
        | true => exact absurd (.inr ⟨e.symm, e2⟩) c
/-- a turn of the program's search: k is nearer than none of those before -/
theorem BestOn.prog (h : BestOn S P b) {k : Int} (far : ∀ x, P x → Sh57.nearer k x = false) : BestOn S (fun x => P x ∨ x = k) (if b.2 < S k then (k, S k) else b) := by
  have z := h.spec k
  have e : (b.2 < S k ∨ (b.2 = S k ∧ Sh57.nearer k b.1 = true)) ↔ b.2 < S k := by
    refine ⟨fun q => ?_, .inl⟩
    rcases q with q | ⟨_, q⟩
    · exact q
    · rw [far _ h.mem] at q
      cases q
  by_cases c : b.2 < S k
  · rw [if_pos (e.mpr c)] at z
    rw [if_pos c]
    exact z
  · rw [if_neg fun q => c (e.mp q)] at z
    rw [if_neg c]
    exact z
end
def stp (S : Int → Nat) (b : Int × Nat) (k : Int) : Int × Nat := if b.2 < S k then (k, S k) else b
/-- the shears tried so far: of each size that below 0, then that above -/
def tried : Nat → List Int
  | 0 => []
  | i + 1 => tried i ++ [0 - ((1 : Int) + (i : Int)), (1 : Int) + (i : Int)]
def bestOf (S : Int → Nat) (l : List Int) : Int × Nat := l.foldl (stp S) (0, S 0)
theorem bestOf_snoc (S : Int → Nat) (l : List Int) (k : Int) : bestOf S (l ++ [k]) = stp S (bestOf S l) k := by
  unfold bestOf
  rw [List.foldl_append]
  rfl
theorem bestOf_tried (S : Int → Nat) : ∀ i : Nat, BestOn S (fun k => k.natAbs ≤ i) (bestOf S (tried i))
  | 0 => by
    refine ⟨Nat.le_refl _, rfl, fun k hk => ?_⟩
    have e : k = 0 := by omega
    subst e
    exact ⟨Nat.le_refl _, fun _ => rfl⟩
  | i + 1 => by
    have ih := bestOf_tried S i
    have e : tried (i + 1) = (tried i ++ [0 - ((1 : Int) + (i : Int))]) ++ [(1 : Int) + (i : Int)] := by
      rw [List.append_assoc]
      rfl
    rw [e, bestOf_snoc, bestOf_snoc]
    have s1 := ih.prog (k := 0 - ((1 : Int) + (i : Int))) fun x hx => nearer_no.mpr (by omega)
    have s2 := s1.prog (k := (1 : Int) + (i : Int)) fun x hx => nearer_no.mpr (by
      rcases hx with hx | hx
      · omega
      · subst hx
        omega)
    refine s2.congr fun k => ?_
    constructor
    · intro h
      by_cases h1 : k = (1 : Int) + (i : Int)
      · exact .inr h1
      · by_cases h2 : k = 0 - ((1 : Int) + (i : Int))
        · exact .inl (.inr h2)
        · exact .inl (.inl (by omega))
    · rintro ((h | h) | h) <;> omega
theorem spec_fold (S : Int → Nat) (m : Nat) : ∀ j : Nat, BestOn S (fun k => k = 0 ∨ (-(m : Int) ≤ k ∧ k < (j : Int) - (m : Int)))
    ((List.range j).foldl (fun (b : Int × Nat) (j : Nat) => if b.2 < S ((j : Int) - (m : Int)) ∨ (b.2 = S ((j : Int) - (m : Int)) ∧ Sh57.nearer ((j : Int) - (m : Int)) b.1 = true) then ((j : Int) - (m : Int), S ((j : Int) - (m : Int))) else b) (0, S 0))
  | 0 => by
    refine ⟨.inl rfl, rfl, fun k hk => ?_⟩
    have e : k = 0 := by
      rcases hk with h | h
      · exact h
      · omega
    subst e
    exact ⟨Nat.le_refl _, fun _ => rfl⟩
  | j + 1 => by
    have ih := spec_fold S m j
    rw [List.range_succ, List.foldl_append]
    refine (ih.spec ((j : Int) - (m : Int))).congr fun k => ?_
    constructor
    · rintro (h | h)
      · exact .inl (.inl h)
      · by_cases h2 : k = (j : Int) - (m : Int)
        · exact .inr h2
        · exact .inl (.inr (by omega))
    · rintro ((h | h) | h)
      · exact .inl h
      · exact .inr (by omega)
      · exact .inr (by omega)
theorem shift_zero (n d c : Nat) (hd : 1 ≤ d) : Sh57.shift n 0 d c = 0 := by
  unfold Sh57.shift
  rw [Int.zero_mul, Int.zero_add, Int.fdiv_eq_ediv_of_nonneg _ (by omega)]
  exact Int.ediv_eq_zero_of_lt (by omega) (by omega)
theorem straightest_is (n m d t : Nat) (f : Nat → Nat → Bool) (hd : 1 ≤ d) : Sh57.straightest n m t d (Sh57.each n m f) = bestOf (fun k => Sh57.sharp (shL n m k d f)) (tried t) := by
  have e0 : Sh57.rowCounts n m (Sh57.each n m f) = shL n m 0 d f := by
    rw [rowCounts_is]
    unfold shL
    refine List.map_congr_left fun r hr => cnt_congr fun c hc => ?_
    unfold shG
    have hr : r < m := List.mem_range.mp hr
    rw [shift_zero n d c hd, thereG_row hc, decide_eq_true (by omega : (0 : Int) ≤ (r : Int) - 0), show ((r : Int) - 0).toNat = r by omega, decide_eq_true hr]
    rfl
  have a := (spec_fold (fun k => Sh57.sharp (shL n m k d f)) t (2 * t + 1)).congr (P' := fun k => k.natAbs ≤ t) fun k => by
    constructor
    · intro h
      exact .inr (by omega)
    · rintro (h | h) <;> omega
  have b := bestOf_tried (fun k => Sh57.sharp (shL n m k d f)) t
  have e1 : ∀ k, Sh57.shearCounts n m k d (Sh57.each n m f) = shL n m k d f := fun k => shearCounts_is n m k d f
  show (List.range (2 * t + 1)).foldl (fun (b : Int × Nat) (j : Nat) => if b.2 < Sh57.sharp (Sh57.shearCounts n m ((j : Int) - (t : Int)) d (Sh57.each n m f)) ∨ (b.2 = Sh57.sharp (Sh57.shearCounts n m ((j : Int) - (t : Int)) d (Sh57.each n m f)) ∧ Sh57.nearer ((j : Int) - (t : Int)) b.1 = true)
    then ((j : Int) - (t : Int), Sh57.sharp (Sh57.shearCounts n m ((j : Int) - (t : Int)) d (Sh57.each n m f))) else b) (0, Sh57.sharp (Sh57.rowCounts n m (Sh57.each n m f))) = _
  simp only [e1, e0]
  exact a.one b
end Pg
namespace Pg
/-! ### what is due, call by call: pages -/
theorem nats_cast' (ns : List Nat) : Sh57Neutral.nats (ns.map fun n => ((n : Nat) : Int)) = ns := by
  unfold Sh57Neutral.nats
  rw [List.map_map]
  conv => rhs; rw [← List.map_id ns]
  exact List.map_congr_left fun n _ => Int.toNat_natCast n
abbrev castL (ns : List Nat) : List Int := ns.map fun n => ((n : Nat) : Int)
/-- how long the page's list is, from what is asked -/
theorem asked_sized {w h : Nat} {ok : Bool} {l : List Int} (hs : ok = true) (ha : (if ok = true then l.length == h * ((w + 31) / 32) else l.isEmpty || l.length == h * ((w + 31) / 32)) = true) : l.length = h * Sh57.wide w := by
  rw [if_pos hs] at ha
  exact eq_of_beq ha
theorem st_turn_is (w h : Nat) (xs : List Nat) : PySh57.st_turn (w : Int) (h : Int) (castL xs) = if Sh57.sized w h = true then 0 :: castL ((List.range w).flatMap fun r => (List.range (Sh57.wide h)).map fun k => wsum h (fun c => quG h (bitOf w xs) c r) k) else [-2] := by
  show Sh57Neutral.told (Sh57.answer (if Sh57.sized ((w : Int).toNat) ((h : Int).toNat) = true then Sh57.Call.turn ((w : Int).toNat) ((h : Int).toNat) (Sh57Neutral.nats (castL xs)) else _)) = _
  rw [nats_cast', Int.toNat_natCast, Int.toNat_natCast]
  by_cases hs : Sh57.sized w h = true
  · rw [if_pos hs, if_pos hs]
    show (0 : Int) :: castL (Sh57.words h w (Sh57.quarter w h (Sh57.page w h xs))) = _
    rw [page_is, quarter_is, words_is]
  · rw [if_neg hs, if_neg hs]
    rfl
end Pg
namespace Pg
open PySem PySem.Spec PyProof.Rows L2
/-! ### what the walks share -/
/-- a def that the text's globals name x: it keeps its promise and takes its arguments in order -/
def Has (P : Program) (w : World) (K : PySem.W.Frag) (mg : Str → Option Value) (base : Heap) (x : Str) (k : Nat) (ps : List Str) (sp : Sp) : Prop :=
  ∃ (f : Addr) (fd : FuncData), FnOk P w K mg base CX0 k f fd ps sp ∧ mg x = some (.ref f) ∧ PySem.W.keepIn K (.ref f) = true ∧ Binds K fd ps []
theorem pe_has {X : Cx} {x : Str} {k : Nat} {ps : List Str} {sp : Sp} {p pos : Pos} {e : Expr} {es : List Expr} {t : TA} (G : Has X.prog X.w X.K X.mg X.base x k ps sp) (hr : Room k X.A) (ha : PA X (e :: es) t) (hg : Gl X x := by rfl)
    (hdb : (x == ("__debug__" : Str)) = false := by decide) (he : starEach (e :: es) X.env = (false, eval e X.env) :: starEach es X.env := by rfl) (hpl : (backTo pos (starEach es X.env)).any (·.1) = false := by rfl) :
    PE X (.Call (.Name x p) (e :: es) [] pos) (tCall sp [] E0 t) := by
  obtain ⟨f, fd, F, hm, hk, hb⟩ := G
  exact pe_call F hr hg hm hk hb .nil pass0 ha hdb he hpl
/-- a whole number of the module, by its name -/
theorem pe_gi {X : Cx} {x : Str} {i : Int} {t : Tok} {pos : Pos} (hm : X.mg x = some (.int i t)) (hg : Gl X x := by rfl) (hd : (x == ("__debug__" : Str)) = false := by decide) : PE X (.Name x pos) (tC (.int i)) :=
  pe_glob (v := .int i) hg hm ⟨t, rfl⟩ hd
/-! rules whose reading names K alone: a comprehension's own context has the same -/
theorem ixK {X : Cx} {K : PySem.W.Frag} (h : X.K = K := by rfl) : IxR X (rIxL K) := h ▸ ix_list
theorem slK {X : Cx} {K : PySem.W.Frag} (h : X.K = K := by rfl) : SlR X (rSlL K) := h ▸ sl_list
theorem lenK {X : Cx} {K : PySem.W.Frag} (h : X.K = K := by rfl) : CallR X (.builtin "len") (fun xs H Q => ∃ p ys, xs = [.ref p] ∧ (SqL K H p ys ∨ SqT K H p ys) ∧ Q (.int ys.length) H) := h ▸ call_len_seq
theorem sumK {X : Cx} {K : PySem.W.Frag} (hc : X.calm = true) (h : X.K = K := by rfl) : CallR X (.builtin "sum") (rSum K) := h ▸ cr_sum hc
theorem pi_listK {X : Cx} {tg l : Expr} {tl : TE} {K : PySem.W.Frag} (hl : PE X l tl) (h : X.K = K := by rfl) : PI X tg l (iList K tl) := h ▸ pi_list hl
theorem same_upd {H : Hp} {p : Addr} {o : HO} (h : H p = none) : Same H (upd H p o) := fun b x e => by
  rw [upd_ne (ne_of_none e h)]
  exact e
/-- an object of ours, new since H, is written: what H tracked stays -/
theorem same_write {H H' : Hp} {p : Addr} {o : HO} (s : Same H H') (h : H p = none) : Same H (upd H' p o) := fun b x e => by
  rw [upd_ne (ne_of_none e h)]
  exact s b x e
theorem line_of {n : Nat} (h : n ≤ 1000000) : n < sizeLine := Nat.lt_of_le_of_lt h (by decide)
theorem line_le {n : Nat} (h : n ≤ 1000000) : n ≤ sizeLine := Nat.le_of_lt (line_of h)
theorem ix_ints {ns : List Int} {j : Nat} {z : Int} (h : ns[j]? = some z) : atI (ns.map V.int) (j : Int) = some (V.int z) := atI_nat (by rw [List.getElem?_map, h]; rfl)
/-- whole numbers from 0 on, as a list of values -/
def vN (l : List Nat) : List V := l.map fun (n : Nat) => V.int (n : Int)
theorem vN_len (l : List Nat) : (vN l).length = l.length := by simp [vN]
theorem vN_at {l : List Nat} {j : Nat} (h : j < l.length) : atI (vN l) (j : Int) = some (V.int ((l.getD j 0 : Nat) : Int)) := atI_nat (by simp [vN, h])
theorem vN_snoc (l : List Nat) (n : Nat) : vN (l ++ [n]) = vN l ++ [V.int (n : Int)] := by
  unfold vN
  rw [List.map_append]
  rfl
theorem vN_ints (l : List Nat) : vN l = (l.map fun n => ((n : Nat) : Int)).map V.int := by simp [vN]
end Pg
namespace Pg
open PySem PySem.Spec PyProof.Rows L2
open PySem.W (Codec WData)
/-! ### the arguments as they come, the answer as it goes -/
theorem nat_of {z hi : Int} (h : Codec.inInt 0 hi z = true) : ∃ n : Nat, z = (n : Int) ∧ (n : Int) ≤ hi := by
  obtain ⟨h0, h1⟩ := Codec.inInt_iff.mp h
  obtain ⟨n, rfl⟩ := Int.eq_ofNat_of_zero_le h0
  exact ⟨n, rfl, h1⟩
theorem nats_of {hi : Int} : ∀ {l : List Int}, l.all (Codec.inInt 0 hi) = true → ∃ ns : List Nat, l = ns.map (fun n => ((n : Nat) : Int)) ∧ ∀ n ∈ ns, (n : Int) ≤ hi
  | [], _ => ⟨[], rfl, fun _ h => nomatch h⟩
  | z :: r, h => by
    rw [List.all_cons, Bool.and_eq_true] at h
    obtain ⟨n, rfl, hn⟩ := nat_of h.1
    obtain ⟨ns, rfl, hs⟩ := nats_of h.2
    exact ⟨n :: ns, rfl, fun m hm => (List.mem_cons.mp hm).elim (fun e => e ▸ hn) (hs m)⟩
theorem list_of {hi : Int} {most : Nat} {l : List Int} (h : (Codec.inLen 0 most l && l.all (Codec.inInt 0 hi)) = true) : ∃ ns : List Nat, l = ns.map (fun n => ((n : Nat) : Int)) ∧ ns.length ≤ most ∧ ∀ n ∈ ns, (n : Int) ≤ hi := by
  rw [Bool.and_eq_true] at h
  obtain ⟨ns, rfl, hs⟩ := nats_of h.2
  refine ⟨ns, rfl, ?_, hs⟩
  have z := (Codec.inNat_iff.mp h.1).2
  rw [List.length_map] at z
  exact z
theorem int_dw {K : PySem.W.Frag} {H : Hp} {v : V} {z : Int} (h : Dw K H v (.int z)) : v = .int z := by
  cases h
  rfl
theorem list_dw {K : PySem.W.Frag} {H : Hp} {v : V} {l : List Int} (h : Dw K H v (.list (l.map WData.int))) : ∃ a, v = .ref a ∧ SqL K H a (l.map V.int) := by
  cases h with
  | lst hs ha =>
    have e := L2.ints_dw l _ ha
    subst e
    exact ⟨_, rfl, hs⟩
theorem dw_one_of {K : PySem.W.Frag} {H : Hp} {xs : List V} {d : WData} {ds : List WData} (h : DwAll K H xs (d :: ds)) : ∃ v vs, xs = v :: vs ∧ Dw K H v d ∧ DwAll K H vs ds := by
  cases h with
  | cons h1 h2 => exact ⟨_, _, rfl, h1, h2⟩
theorem dw_nil_of {K : PySem.W.Frag} {H : Hp} {xs : List V} (h : DwAll K H xs []) : xs = [] := by
  cases h
  rfl
/-- the answer: a list of ints stands at p -/
theorem ans_dw {K : PySem.W.Frag} {H : Hp} {p : Addr} {l : List Int} (h : H p = some (.lst (l.map V.int))) : Dw K H (.ref p) (.list (l.map WData.int)) := .lst (SqL.of h) (dw_ints _)
end Pg
namespace Pg
open PySem PySem.Spec PyProof.Rows L2
/-! ### lists in step -/
theorem at_nat {l : List Nat} {j : Nat} {z : Int} (e : z = (j : Int)) (h : j < l.length) : atI (vN l) z = some (V.int ((l.getD j 0 : Nat) : Int)) := by
  rw [e]
  exact vN_at h
theorem at_ints {l : List Int} {j : Nat} {z x : Int} (e : z = (j : Int)) (h : l[j]? = some x) : atI (l.map V.int) z = some (V.int x) := by
  rw [e]
  exact ix_ints h
theorem ixN_of {n j : Nat} {z : Int} (e : z = (j : Int)) (h : j < n) : ixN n z = some j := by
  subst e
  unfold ixN
  rw [if_pos (by omega), if_pos (by omega)]
  rfl
/-- two lists of one length, place by place -/
structure Reps {α β : Type} (R : α → β → Prop) (xs : List α) (ys : List β) : Prop where
  len : xs.length = ys.length
  get : ∀ (i : Nat) x y, xs[i]? = some x → ys[i]? = some y → R x y
section
variable {α β : Type} {R R' : α → β → Prop} {xs : List α} {ys : List β}
theorem Reps.nil : Reps R [] [] := ⟨rfl, fun i x y h => by simp at h⟩
theorem Reps.mono (r : Reps R xs ys) (h : ∀ x y, R x y → R' x y) : Reps R' xs ys := ⟨r.len, fun i x y a b => h _ _ (r.get i x y a b)⟩
theorem Reps.snoc {x : α} {y : β} (r : Reps R xs ys) (h : R x y) : Reps R (xs ++ [x]) (ys ++ [y]) := by
  refine ⟨by rw [List.length_append, List.length_append, r.len]; rfl, fun i a b ha hb => ?_⟩
  by_cases hi : i < xs.length
  · rw [List.getElem?_append_left hi] at ha
    rw [List.getElem?_append_left (by rw [← r.len]; exact hi)] at hb
    exact r.get i a b ha hb
  · have hi : xs.length ≤ i := Nat.le_of_not_lt hi
    rw [List.getElem?_append_right hi] at ha
    rw [List.getElem?_append_right (by rw [← r.len]; exact hi), ← r.len] at hb
    cases e : i - xs.length with
    | zero =>
      rw [e] at ha hb
      cases Option.some.inj ha
      cases Option.some.inj hb
      exact h
    | succ n =>
      rw [e] at ha
      simp at ha
theorem Reps.here {i : Nat} {y : β} (r : Reps R xs ys) (h : ys[i]? = some y) : ∃ x, xs[i]? = some x ∧ R x y := by
  have hi : i < ys.length := (List.getElem?_eq_some_iff.mp h).1
  have hi' : i < xs.length := by rw [r.len]; exact hi
  exact ⟨xs[i], List.getElem?_eq_getElem hi', r.get i _ _ (List.getElem?_eq_getElem hi') h⟩
end
theorem map_ref {as : List Addr} {i : Nat} {b : Addr} (h : as[i]? = some b) : (as.map V.ref)[i]? = some (V.ref b) := by rw [List.getElem?_map, h]; rfl
/-- a list of tuples of two numbers stands at o -/
structure PairsAt (H : Hp) (o : Addr) (as : List Addr) (ps : List (Nat × Nat)) : Prop where
  lst : H o = some (.lst (as.map V.ref))
  reps : Reps (fun b p => H b = some (.tup [.int ((p.1 : Nat) : Int), .int ((p.2 : Nat) : Int)])) as ps
theorem PairsAt.same {H H' : Hp} {o : Addr} {as : List Addr} {ps : List (Nat × Nat)} (h : PairsAt H o as ps) (s : Same H H') : PairsAt H' o as ps := ⟨s _ _ h.lst, h.reps.mono fun _ _ q => s _ _ q⟩
theorem PairsAt.push {H : Hp} {o b : Addr} {as : List Addr} {ps : List (Nat × Nat)} {p : Nat × Nat} (h : PairsAt H o as ps) (hb : H b = some (.tup [.int ((p.1 : Nat) : Int), .int ((p.2 : Nat) : Int)])) :
    PairsAt (upd H o (.lst (as.map V.ref ++ [V.ref b]))) o (as ++ [b]) (ps ++ [p]) := by
  have ne : ∀ {c : Addr} {l : List V}, H c = some (.tup l) → c ≠ o := fun hc => ne_of hc h.lst (by intro z; cases z)
  refine ⟨by rw [upd_same, List.map_append]; rfl, (h.reps.mono fun c q hc => ?_).snoc ?_⟩
  · rw [upd_ne (ne hc)]
    exact hc
  · rw [upd_ne (ne hb)]
    exact hb
theorem tYes_of {σ : L2.St} {H : Hp} {Q : Bool → Hp → Prop} (h : Q true H) : tYes σ H Q := h
/-- a list that a comprehension makes -/
theorem lc_push {H1 : Hp} {D : Addr} {F : Nat → V} {i : Nat} {y : V} (hy : y = F i) (hi : i ≤ 1000000) : ∃ acc, (upd H1 D (.lst ((List.range i).map F))) D = some (.lst acc) ∧ acc.length < sizeLine ∧
    upd (upd H1 D (.lst ((List.range i).map F))) D (.lst (acc ++ [y])) = upd H1 D (.lst ((List.range (i + 1)).map F)) := by
  refine ⟨_, upd_same, line_of (by simpa using hi), ?_⟩
  rw [upd_upd, List.range_succ, List.map_append, hy]
  rfl
/-- truths, place by place -/
def marksV (n : Nat) (f : Nat → Bool) : List V := (List.range n).map fun t => V.bl (f t)
theorem marksV_len (n : Nat) (f : Nat → Bool) : (marksV n f).length = n := by simp [marksV]
theorem marksV_set (n : Nat) (f : Nat → Bool) (j : Nat) : (marksV n f).set j (V.bl false) = marksV n (fun t => f t && !decide (t = j)) := by
  unfold marksV
  refine List.ext_getElem? fun i => ?_
  by_cases hi : i < n
  · by_cases e : j = i
    · subst e
      rw [List.getElem?_set_self (by simpa using hi)]
      simp [hi]
    · rw [List.getElem?_set_ne e]
      simp [hi, Ne.symm e]
  · rw [List.getElem?_eq_none (by simpa using hi), List.getElem?_eq_none (by simpa using hi)]
theorem vN_get {ns : List Nat} {i : Nat} {x : V} (h : (vN ns)[i]? = some x) : ∃ n : Nat, ns[i]? = some n ∧ x = .int (n : Int) := by
  unfold vN at h
  rw [List.getElem?_map] at h
  cases e : ns[i]? with
  | none =>
    rw [e] at h
    cases h
  | some n =>
    rw [e] at h
    exact ⟨n, rfl, (Option.some.inj h).symm⟩
end Pg
namespace Pg
open PySem PySem.Spec PyProof.Rows L2
/-! ### lists of rows of whole numbers in the heap -/
structure RowsAt (K : PySem.W.Frag) (H : Hp) (a : Addr) (as : List Addr) (rows : List (List Int)) : Prop where
  lst : SqL K H a (as.map V.ref)
  reps : Reps (fun b row => SqL K H b (row.map V.int)) as rows
abbrev PageAt (K : PySem.W.Frag) (H : Hp) (a : Addr) (as : List Addr) (w h : Nat) (f : Nat → Nat → Bool) : Prop := RowsAt K H a as (rowsI w h f)
section
variable {K : PySem.W.Frag} {H H' H4 : Hp} {a o D b : Addr} {as : List Addr} {rows : List (List Int)} {rw1 : List Int}
theorem RowsAt.same (h : RowsAt K H a as rows) (s : Same H H') : RowsAt K H' a as rows := ⟨s.seq h.lst, h.reps.mono fun _ _ q => s.seq q⟩
theorem RowsAt.row {z : Int} {i : Nat} (h : RowsAt K H a as rows) (e : z = (i : Int)) (hr : rows[i]? = some rw1) : ∃ b, atI (as.map V.ref) z = some (V.ref b) ∧ SqL K H b (rw1.map V.int) := by
  obtain ⟨b, hb, q⟩ := h.reps.here hr
  exact ⟨b, at_of e (map_ref hb), q⟩
theorem RowsAt.len (h : RowsAt K H a as rows) : (as.map V.ref).length = rows.length := by rw [List.length_map, h.reps.len]
/-- a list of rows that is ours: the list and its rows may be changed -/
structure RowsOwn (H : Hp) (o : Addr) (as : List Addr) (rows : List (List Int)) : Prop where
  lst : H o = some (.lst (as.map V.ref))
  reps : Reps (fun b row => H b = some (.lst (row.map V.int)) ∧ b ≠ o) as rows
theorem RowsOwn.same (h : RowsOwn H o as rows) (s : Same H H') : RowsOwn H' o as rows := ⟨s _ _ h.lst, h.reps.mono fun _ _ q => ⟨s _ _ q.1, q.2⟩⟩
theorem RowsOwn.at (h : RowsOwn H o as rows) : RowsAt K H o as rows := ⟨SqL.of h.lst, h.reps.mono fun _ _ q => SqL.of q.1⟩
theorem RowsOwn.push (h : RowsOwn H o as rows) (hb : H b = some (.lst (rw1.map V.int))) (ne : b ≠ o) : RowsOwn (upd H o (.lst (as.map V.ref ++ [V.ref b]))) o (as ++ [b]) (rows ++ [rw1]) := by
  refine ⟨by rw [upd_same, List.map_append]; rfl, (h.reps.mono fun c r q => ?_).snoc ⟨?_, ne⟩⟩
  · exact ⟨(upd_ne q.2).trans q.1, q.2⟩
  · exact (upd_ne ne).trans hb
theorem rows_push (hD : H D = none) (s : Same H H') (R : RowsOwn H' D as rows) (s4 : Same H' H4) (nb : H' b = none) (eb : H4 b = some (.lst (rw1.map V.int))) (few : rows.length ≤ 1000000) :
    H4 D = some (.lst (as.map V.ref)) ∧ (as.map V.ref).length < sizeLine ∧ Same H (upd H4 D (.lst (as.map V.ref ++ [V.ref b]))) ∧ RowsOwn (upd H4 D (.lst (as.map V.ref ++ [V.ref b]))) D (as ++ [b]) (rows ++ [rw1]) := by
  have ne : b ≠ D := fun e => by rw [e, R.lst] at nb; cases nb
  exact ⟨s4 _ _ R.lst, line_of (by rw [List.length_map, R.reps.len]; exact few), same_write (s.trans s4) hD, (R.same s4).push eb ne⟩
/-- the same as a comprehension asks it -/
theorem lc_rows {rowf : Nat → List Int} {i : Nat} (hD : H D = none) (s : Same H H') (R : RowsOwn H' D as ((List.range i).map rowf)) (s4 : Same H' H4) (nb : H' b = none) (eb : H4 b = some (.lst ((rowf i).map V.int))) (few : i ≤ 1000000) :
    ∃ acc, H4 D = some (.lst acc) ∧ acc.length < sizeLine ∧ ∃ as, Same H (upd H4 D (.lst (acc ++ [V.ref b]))) ∧ RowsOwn (upd H4 D (.lst (acc ++ [V.ref b]))) D as ((List.range (i + 1)).map rowf) := by
  obtain ⟨h1, h2, h3, h4⟩ := rows_push hD s R s4 nb eb (by simpa using few)
  refine ⟨_, h1, h2, as ++ [b], h3, ?_⟩
  rw [List.range_succ, List.map_append]
  exact h4
theorem RowsOwn.start (hD : H D = none) : Same H (upd H D (.lst [])) ∧ RowsOwn (upd H D (.lst [])) D [] [] := ⟨same_upd hD, upd_same, .nil⟩
end
/-! ### where a comprehension's own names stand -/
def lcSc : Expr → Scope
  | .ListComp _ _ sc _ => sc
  | _ => { kind := .function, names := [], isGenerator := false, isCoroutine := false }
def retOf : Stmt → Expr
  | .Return (some e) _ => e
  | _ => .Constant .none 0 ⟨0, 0, 0, 0⟩
theorem bit_rel (b : Bool) : 0 ≤ bit b ∧ bit b ≤ 1 := by cases b <;> exact ⟨by decide, by decide⟩
end Pg
namespace Pg
open PySem PySem.Spec PyProof.Rows L2
/-! ### the text by places -/
def topS (i : Nat) : Stmt := PySem.Challenge.pw_pagestraight_s05_st_straight.main.body.getD i (.Pass ⟨0, 0, 0, 0⟩)
abbrev sSharp : Stmt := topS 1
abbrev sWordsOf : Stmt := topS 5
abbrev sIsSize : Stmt := topS 6
abbrev sRowFrom : Stmt := topS 7
abbrev sPageFrom : Stmt := topS 8
abbrev sAsWord : Stmt := topS 11
abbrev sShear : Stmt := topS 12
abbrev sDots : Stmt := topS 13
abbrev sCountsSheared : Stmt := topS 14
abbrev sStraight : Stmt := topS 15
abbrev sIsShear : Stmt := topS 20
abbrev sStStraight : Stmt := topS 21
end Pg
namespace Pg
open PySem PySem.Spec PyProof.Rows L2
section
variable {P : Program} {w : World} {K : PySem.W.Frag} {mg : Str → Option Value} {base : Heap}
/-! ### sharp -/
def spSharp (K : PySem.W.Frag) : Sp := fun vs H Q _ => ∃ (a : Addr) (ns : List Nat), vs = [.ref a] ∧ SqL K H a (vN ns) ∧ ns.length ≤ 100000 ∧ (∀ n ∈ ns, n ≤ 4294967295) ∧ Q (.int ((Sh57.sharp ns : Nat) : Int)) H
theorem scSharp : FnScope ["numbers", "found", "at", "apart"] ["numbers"] (defScope sSharp) := ⟨rfl, rfl, rfl, by decide +kernel, rfl, by decide +kernel, by decide +kernel⟩
theorem getD_le {ns : List Nat} {m : Nat} (h : ∀ n ∈ ns, n ≤ m) (j : Nat) : ns.getD j 0 ≤ m := by
  by_cases hj : j < ns.length
  · have e : ns.getD j 0 = ns[j] := by simp [hj]
    rw [e]
    exact h _ (List.getElem_mem hj)
  · have e : ns.getD j 0 = 0 := by simp [Nat.le_of_not_lt hj]
    rw [e]
    exact Nat.zero_le _
theorem ok_sharp {f : Addr} {fd : FuncData} (F : Fun K "sharp" "sharp" sSharp f fd) (mr : mg "range" = none) (ml : mg "len" = none) : FnOk P w K mg base CX0 1 f fd ["numbers"] (spSharp K) := by
  refine F.ok scSharp (fun vs H Q E h => ?_) (fun cdv A outer s H vs Q E hr h => ?_)
  · obtain ⟨a, ns, rfl, _⟩ := h
    rfl
  · obtain ⟨a, ns, rfl, hS, hl, hb, q⟩ := h
    have nd := scSharp.nd
    refine ⟨_, pss_cons (ps_set (i := 1) nd rfl (.inl rfl) pe_int)
      (pss_cons (ps_for PassesOwn.never rfl (pi_range1 (by rfl) mr (pa_cons (pe_op op_sub (pe_callB call_len_seq (by rfl) ml PySem.boot_len (pa_cons (pv 0) pa_nil)) pe_int) pa_nil)) (pg_name (i := 2) nd rfl (.inl rfl))
        (pss_cons (ps_set (i := 3) nd rfl (.inl rfl) (pe_op op_sub (pe_ix ix_list (pv 0) (pe_op op_add (pv 2) pe_int) (fun _ _ => rfl)) (pe_ix ix_list (pv 0) (pv 2) (fun _ _ => rfl))))
        (pss_one (ps_set (i := 1) nd rfl (.inl rfl) (pe_op op_add (pv 1) (pe_op op_mul (pv 3) (pv 3)))))))
      (pss_one (ps_ret (pv 1)))), ?_⟩
    have hlen := vN_len ns
    refine ⟨_, rfl, a, _, rfl, .inl hS, _, _, rfl, rfl, _, rfl, by omega, by omega, ?_⟩
    refine for_range (fun i σ H' => ∃ v2 v3, σ = [some (.ref a), some (.int (sq ns i)), v2, v3] ∧ H' = H) ⟨none, none, rfl, rfl⟩ ?_ ?_
    · rintro i σ H' hi ⟨v2, v3, rfl, rfl⟩
      have hi2 : i + 1 < ns.length := by omega
      refine ⟨_, rfl, _, rfl, _, _, rfl, rfl, a, _, _, _, rfl, rfl, hS, at_nat (j := i + 1) (by omega) hi2, _, rfl, _, rfl, a, _, _, _, rfl, rfl, hS, at_nat (j := i) (by omega) (by omega), _, _, rfl, rfl, ?_⟩
      have b1 := getD_le hb (i + 1)
      have b2 := getD_le hb i
      refine ⟨_, rfl, _, rfl, _, rfl, _, _, rfl, rfl, .inl ⟨by omega, by omega⟩, _, _, rfl, rfl, ?_⟩
      exact ⟨_, _, rfl, rfl⟩
    · rintro σ H' ⟨v2, v3, rfl, rfl⟩
      refine ⟨_, rfl, ?_⟩
      rw [sharp_is] at q
      have e : (((vN ns).length : Int) - 1).toNat = ns.length - 1 := by omega
      rw [e]
      exact q
end
end Pg
namespace Pg
open PySem PySem.Spec PyProof.Rows L2
section
variable {P : Program} {w : World} {K : PySem.W.Frag} {mg : Str → Option Value} {base : Heap}
/-! ### words_of -/
def spWordsOf : Sp := fun vs H Q _ => ∃ n : Nat, vs = [.int (n : Int)] ∧ Q (.int ((Sh57.wide n : Nat) : Int)) H
theorem scWordsOf : FnScope ["many"] ["many"] (defScope sWordsOf) := ⟨rfl, rfl, rfl, by decide +kernel, rfl, by decide +kernel, by decide +kernel⟩
theorem ok_words_of {f : Addr} {fd : FuncData} {t : Tok} (F : Fun K "words_of" "words_of" sWordsOf f fd) (gW : mg "WORD" = some (.int 32 t)) : FnOk P w K mg base CX0 1 f fd ["many"] spWordsOf := by
  refine F.ok scWordsOf (fun vs H Q E h => ?_) (fun cdv A outer s H vs Q E hr h => ?_)
  · obtain ⟨n, rfl, _⟩ := h
    rfl
  · obtain ⟨n, rfl, q⟩ := h
    refine ⟨_, pss_one (ps_ret (pe_op op_fdiv (pe_op op_sub (pe_op op_add (pv 0) (pe_gi gW)) pe_int) (pe_gi gW))), ?_⟩
    refine ⟨_, rfl, _, _, rfl, rfl, _, _, rfl, rfl, _, _, rfl, rfl, ⟨by decide, by decide⟩, ?_⟩
    have e : ((Sh57.wide n : Nat) : Int) = ((n : Int) + 32 - 1) / 32 := by
      unfold Sh57.wide
      omega
    rw [e] at q
    exact q
/-! ### is_size -/
def spIsSize : Sp := fun vs H Q _ => ∃ a b : Nat, vs = [.int (a : Int), .int (b : Int)] ∧ Q (.bl (Sh57.sized a b)) H
theorem scIsSize : FnScope ["wide", "high"] ["wide", "high"] (defScope sIsSize) := ⟨rfl, rfl, rfl, by decide +kernel, rfl, by decide +kernel, by decide +kernel⟩
theorem sized_iff {a b : Nat} : Sh57.sized a b = true ↔ (1 ≤ a ∧ a ≤ 256) ∧ (1 ≤ b ∧ b ≤ 256) := by
  unfold Sh57.sized Sh57.among
  simp only [Bool.and_eq_true, decide_eq_true_eq]
theorem sized_no {a b : Nat} (h : ¬ ((1 ≤ a ∧ a ≤ 256) ∧ (1 ≤ b ∧ b ≤ 256))) : Sh57.sized a b = false := by
  rw [← Bool.not_eq_true]
  exact fun z => h (sized_iff.mp z)
theorem ok_is_size {f : Addr} {fd : FuncData} {t : Tok} (F : Fun K "is_size" "is_size" sIsSize f fd) (gM : mg "MOST_SIDE" = some (.int 256 t)) : FnOk P w K mg base CX0 1 f fd ["wide", "high"] spIsSize := by
  refine F.ok scIsSize (fun vs H Q E h => ?_) (fun cdv A outer s H vs Q E hr h => ?_)
  · obtain ⟨a, b, rfl, _⟩ := h
    rfl
  · obtain ⟨a, b, rfl, q⟩ := h
    refine ⟨_, pss_one (ps_ret (pe_and (pe_cmpR op_le pe_int (pv 0) (nomark _)) (pe_and (pe_cmpR op_le (pv 0) (pe_gi gM) (nomark _)) (pe_and (pe_cmpR op_le pe_int (pv 1) (nomark _)) (pe_one (pe_cmpR op_le (pv 1) (pe_gi gM) (nomark _))))))), ?_⟩
    refine ⟨_, rfl, _, _, rfl, rfl, _, rfl, ite2 (fun e1 => ?_) (fun e1 => ?_)⟩
    · have e1 : (1 : Int) ≤ (a : Int) := of_decide_eq_true e1
      refine ⟨_, rfl, _, _, rfl, rfl, _, rfl, ite2 (fun e2 => ?_) (fun e2 => ?_)⟩
      · have e2 : (a : Int) ≤ 256 := of_decide_eq_true e2
        refine ⟨_, rfl, _, _, rfl, rfl, _, rfl, ite2 (fun e3 => ?_) (fun e3 => ?_)⟩
        · have e3 : (1 : Int) ≤ (b : Int) := of_decide_eq_true e3
          refine ⟨_, rfl, _, _, rfl, rfl, ?_⟩
          have e : decide ((b : Int) ≤ 256) = Sh57.sized a b := by
            by_cases h : b ≤ 256
            · rw [decide_eq_true (by omega : (b : Int) ≤ 256), sized_iff.mpr (by omega)]
            · rw [decide_eq_false (by omega : ¬ (b : Int) ≤ 256), sized_no (by omega)]
          rw [← e] at q
          exact q
        · have e3 : ¬ (1 : Int) ≤ (b : Int) := fun h => e3 (decide_eq_true h)
          rw [sized_no (by omega)] at q
          exact q
      · have e2 : ¬ (a : Int) ≤ 256 := fun h => e2 (decide_eq_true h)
        rw [sized_no (by omega)] at q
        exact q
    · have e1 : ¬ (1 : Int) ≤ (a : Int) := fun h => e1 (decide_eq_true h)
      rw [sized_no (by omega)] at q
      exact q
/-! ### row_from -/
def spRowFrom (K : PySem.W.Frag) : Sp := fun vs H Q _ => ∃ (a : Addr) (ws : List Nat) (n : Nat), vs = [.ref a, .int (n : Int)] ∧ SqL K H a (vN ws) ∧ n ≤ 100000 ∧ n ≤ 32 * ws.length ∧
  ∀ H' p, Same H H' → H p = none → H' p = some (.lst ((rowI n fun c => ws.getD (c / 32) 0 / 2 ^ (c % 32) % 2 == 1).map V.int)) → Q (.ref p) H'
theorem scRowFrom : FnScope ["words", "wide", "at"] ["words", "wide"] (defScope sRowFrom) := ⟨rfl, rfl, rfl, by decide +kernel, rfl, by decide +kernel, by decide +kernel⟩
theorem ok_row_from {f : Addr} {fd : FuncData} {t : Tok} (F : Fun K "row_from" "row_from" sRowFrom f fd) (gW : mg "WORD" = some (.int 32 t)) (mr : mg "range" = none) : FnOk P w K mg base CX0 1 f fd ["words", "wide"] (spRowFrom K) := by
  refine F.ok scRowFrom (fun vs H Q E h => ?_) (fun cdv A outer s H vs Q E hr h => ?_)
  · obtain ⟨a, ws, n, rfl, _⟩ := h
    rfl
  · obtain ⟨a, ws, n, rfl, hA, hn, hw, q⟩ := h
    have nd := scRowFrom.nd
    refine ⟨_, pss_one (ps_ret (pe_lc (own := [("at", 2)]) (g := gName 2) (tt := tYes) (by rfl) nd (pi_range1 (by rfl) mr (pa_cons (pv 1) pa_nil)) (blkOk_by (own := [("at", 2)]) (N := ["words", "wide", "at"]) (sc := defScope sRowFrom) (by decide +kernel))
      (fun _ _ _ _ _ => pg_name (i := 2) nd rfl (Or.inl rfl)) (fun _ _ _ _ _ => pts_nil)
      (fun _ _ _ _ _ => pe_op op_mod (pe_op op_shr (pe_ix (ixK (K := K)) (pv 0) (pe_op op_fdiv (pv 2) (pe_gi gW)) (fun _ _ => rfl)) (pe_op op_mod (pv 2) (pe_gi gW))) pe_int))), ?_⟩
    refine ⟨_, rfl, _, rfl, by omega, by omega, fun D hD => ?_⟩
    refine lc_range (fun i H' => H' = upd H D (.lst ((List.range i).map fun c => V.int (bit (ws.getD (c / 32) 0 / 2 ^ (c % 32) % 2 == 1))))) rfl ?_ ?_
    · rintro i H' hi rfl
      have hi : i < n := by omega
      have hA' : SqL K (upd H D (.lst ((List.range i).map fun c => V.int (bit (ws.getD (c / 32) 0 / 2 ^ (c % 32) % 2 == 1))))) a (vN ws) := (same_upd hD).seq hA
      refine ⟨rfl, tYes_of (iteT ?_)⟩
      refine ⟨_, rfl, _, rfl, _, _, rfl, rfl, ⟨by decide, by decide⟩, a, _, _, _, rfl, rfl, hA', at_nat (j := i / 32) (by omega) (by omega), _, rfl, _, _, rfl, rfl, (by show (0 : Int) < 32; decide), _, _, rfl, rfl, (by show (0 : Int) ≤ (0 + (i : Int)) % 32; omega),
        _, _, rfl, rfl, (by show (0 : Int) < 2; decide), lc_push ?_ (by omega)⟩
      have e : ((0 + (i : Int)) % 32).toNat = i % 32 := by omega
      show V.int (((ws.getD (i / 32) 0 : Nat) : Int) / 2 ^ ((0 + (i : Int)) % 32).toNat % 2) = V.int (bit _)
      rw [e, bit_word]
    · rintro H' rfl
      refine q _ D (same_upd hD) hD ?_
      rw [upd_same, show (n : Int).toNat = n by omega]
      unfold rowI
      rw [List.map_map]
      rfl
/-! ### page_from -/
def spPageFrom (K : PySem.W.Frag) : Sp := fun vs H Q _ => ∃ (a : Addr) (xs : List Nat) (n m : Nat), vs = [.ref a, .int (n : Int), .int (m : Int)] ∧ SqL K H a (vN xs) ∧ xs.length = m * Sh57.wide n ∧ n ≤ 256 ∧ m ≤ 256 ∧
  ∀ H' p as, Same H H' → PageAt K H' p as n m (bitOf n xs) → Q (.ref p) H'
theorem scPageFrom : FnScope ["words", "wide", "high", "many", "row"] ["words", "wide", "high"] (defScope sPageFrom) := ⟨rfl, rfl, rfl, by decide +kernel, rfl, by decide +kernel, by decide +kernel⟩
theorem cut_vN {xs : List Nat} {r m : Nat} (h : r * m + m ≤ xs.length) : cutV (vN xs) (some ((r : Int) * (m : Int))) (some ((r : Int) * (m : Int) + (m : Int))) = vN ((xs.drop (r * m)).take m) := by
  have e1 : (r : Int) * (m : Int) = ((r * m : Nat) : Int) := (Int.natCast_mul r m).symm
  have e2 : (r : Int) * (m : Int) + (m : Int) = ((r * m + m : Nat) : Int) := by rw [e1, Int.natCast_add]
  unfold cutV
  have m1 : min (r * m) xs.length = r * m := Nat.min_eq_left (by omega)
  have m2 : min (r * m + m) xs.length = r * m + m := Nat.min_eq_left h
  rw [e2, e1, HT.sIx_nat, HT.sIx_nat, vN_len, m1, m2, Nat.add_sub_cancel_left]
  unfold vN
  rw [List.map_take, List.map_drop]
theorem row_bits {xs : List Nat} {n m r : Nat} (hx : xs.length = m * Sh57.wide n) (hr : r < m) :
    (rowI n fun c => ((xs.drop (r * Sh57.wide n)).take (Sh57.wide n)).getD (c / 32) 0 / 2 ^ (c % 32) % 2 == 1) = rowI n fun c => bitOf n xs c r := by
  unfold rowI bitOf
  refine List.map_congr_left fun c hc => ?_
  have hc : c < n := List.mem_range.mp hc
  have hw : c / 32 < Sh57.wide n := by
    unfold Sh57.wide
    omega
  have e : ((xs.drop (r * Sh57.wide n)).take (Sh57.wide n)).getD (c / 32) 0 = xs.getD (r * Sh57.wide n + c / 32) 0 := by
    rw [List.getD_eq_getElem?_getD, List.getD_eq_getElem?_getD, List.getElem?_take_of_lt hw, List.getElem?_drop]
  show bit (((xs.drop (r * Sh57.wide n)).take (Sh57.wide n)).getD (c / 32) 0 / 2 ^ (c % 32) % 2 == 1) = bit (xs.getD (r * Sh57.wide n + c / 32) 0 / 2 ^ (c % 32) % 2 == 1)
  rw [e]
theorem ok_page_from {f : Addr} {fd : FuncData} (F : Fun K "page_from" "page_from" sPageFrom f fd) (hW : Has P w K mg base "words_of" 1 ["many"] spWordsOf) (hR : Has P w K mg base "row_from" 1 ["words", "wide"] (spRowFrom K)) (mr : mg "range" = none) :
    FnOk P w K mg base CX0 2 f fd ["words", "wide", "high"] (spPageFrom K) := by
  refine F.ok scPageFrom (fun vs H Q E h => ?_) (fun cdv A outer s H vs Q E hr h => ?_)
  · obtain ⟨a, xs, n, m, rfl, _⟩ := h
    rfl
  · obtain ⟨a, xs, n, m, rfl, hA, hx, hn, hm, q⟩ := h
    have nd := scPageFrom.nd
    refine ⟨_, pss_cons (ps_set (i := 3) nd rfl (.inr rfl) (pe_has hW hr (pa_cons (pv 1) pa_nil)))
      (pss_one (ps_ret (pe_lc (own := [("row", 4)]) (g := gName 4) (tt := tYes) (by rfl) nd (pi_range1 (by rfl) mr (pa_cons (pv 2) pa_nil)) (blkOk_by (own := [("row", 4)]) (N := ["words", "wide", "high", "many", "row"]) (sc := defScope sPageFrom) (by decide +kernel))
      (fun _ _ _ _ _ => pg_name (i := 4) nd rfl (Or.inl rfl)) (fun _ _ _ _ _ => pts_nil)
      (fun _ _ _ _ _ => pe_has hR hr (pa_cons (pe_slice (slK (K := K)) (pv 0) (po_some (pe_op op_mul (pv 4) (pv 3))) (po_some (pe_op op_add (pe_op op_mul (pv 4) (pv 3)) (pv 3)))) (pa_cons (pv 1) pa_nil)))))), ?_⟩
    refine ⟨_, rfl, n, rfl, ?_⟩
    refine ⟨_, rfl, _, rfl, by omega, by omega, fun D hD => ?_⟩
    have hwide : Sh57.wide n ≤ 100 := by
      unfold Sh57.wide
      omega
    refine lc_range (fun i H' => ∃ as, Same H H' ∧ RowsOwn H' D as ((List.range i).map fun r => rowI n fun c => bitOf n xs c r)) ⟨[], (RowsOwn.start hD).1, (RowsOwn.start hD).2⟩ ?_ ?_
    · rintro i H' hi ⟨as, sm, R⟩
      have hi : i < m := by omega
      have hle : i * Sh57.wide n + Sh57.wide n ≤ xs.length := by
        have z : (i + 1) * Sh57.wide n ≤ m * Sh57.wide n := Nat.mul_le_mul_right _ hi
        rw [Nat.succ_mul] at z
        omega
      refine ⟨rfl, tYes_of (iteT ?_)⟩
      refine ⟨_, rfl, _, rfl, _, rfl, _, _, rfl, rfl, .inl ⟨by omega, by omega⟩, _, rfl, _, rfl, _, rfl, _, _, rfl, rfl, .inl ⟨by omega, by omega⟩, _, rfl, _, _, rfl, rfl, _, rfl, a, _, rfl, sm.seq hA, fun p hp => ?_⟩
      have ec : cutV (vN xs) (some ((0 + (i : Int)) * ((Sh57.wide n : Nat) : Int))) (some ((0 + (i : Int)) * ((Sh57.wide n : Nat) : Int) + ((Sh57.wide n : Nat) : Int))) = vN ((xs.drop (i * Sh57.wide n)).take (Sh57.wide n)) := by
        rw [Int.zero_add]
        exact cut_vN hle
      refine ⟨_, rfl, p, (xs.drop (i * Sh57.wide n)).take (Sh57.wide n), n, rfl, ?_, by omega, ?_, fun H4 b s4 nb eb => ?_⟩
      · rw [← ec]
        exact SqL.of upd_same
      · rw [List.length_take, List.length_drop]
        unfold Sh57.wide at hle ⊢
        omega
      · have sp := same_upd (o := .lst (cutV (vN xs) (some ((0 + (i : Int)) * ((Sh57.wide n : Nat) : Int))) (some ((0 + (i : Int)) * ((Sh57.wide n : Nat) : Int) + ((Sh57.wide n : Nat) : Int))))) hp
        rw [row_bits hx hi] at eb
        exact lc_rows (rowf := fun r => rowI n fun c => bitOf n xs c r) hD sm R (sp.trans s4) (sp.free nb) eb (by omega)
    · rintro H' ⟨as, sm, R⟩
      rw [show (m : Int).toNat = m by omega] at R
      exact q H' D as sm R.at
end
end Pg
namespace Pg
open PySem PySem.Spec PyProof.Rows L2
section
variable {P : Program} {w : World} {K : PySem.W.Frag} {mg : Str → Option Value} {base : Heap}
/-! ### as_word -/
def spAsWord : Sp := fun vs H Q _ => ∃ i : Int, vs = [.int i] ∧ Q (.int (i % 4294967296)) H
theorem scAsWord : FnScope ["number"] ["number"] (defScope sAsWord) := ⟨rfl, rfl, rfl, by decide +kernel, rfl, by decide +kernel, by decide +kernel⟩
theorem ok_as_word {f : Addr} {fd : FuncData} {t : Tok} (F : Fun K "as_word" "as_word" sAsWord f fd) (gW : mg "WORDS" = some (.int 4294967296 t)) : FnOk P w K mg base CX0 1 f fd ["number"] spAsWord := by
  refine F.ok scAsWord (fun vs H Q E h => ?_) (fun cdv A outer s H vs Q E hr h => ?_)
  · obtain ⟨n, rfl, _⟩ := h
    rfl
  · obtain ⟨n, rfl, q⟩ := h
    refine ⟨_, pss_one (ps_ret (pe_op op_mod (pv 0) (pe_gi gW))), ?_⟩
    exact ⟨_, rfl, _, _, rfl, rfl, (by show (0 : Int) < 4294967296; decide), q⟩
end
end Pg
namespace Pg
open PySem PySem.Spec PyProof.Rows L2
section
variable {P : Program} {w : World} {K : PySem.W.Frag} {mg : Str → Option Value} {base : Heap}
/-! ### shear -/
def spShear : Sp := fun vs H Q _ => ∃ (k : Int) (d c n : Nat), vs = [.int k, .int (d : Int), .int (c : Int), .int (n : Int)] ∧ 1 ≤ d ∧ d ≤ 4294967296 ∧ (-(2 ^ 64) < k ∧ k < 2 ^ 64) ∧ Q (.int (Sh57.shift n k d c)) H
theorem scShear : FnScope ["k", "d", "at", "many"] ["k", "d", "at", "many"] (defScope sShear) := ⟨rfl, rfl, rfl, by decide +kernel, rfl, by decide +kernel, by decide +kernel⟩
theorem ok_shear {f : Addr} {fd : FuncData} (F : Fun K "shear" "shear" sShear f fd) : FnOk P w K mg base CX0 1 f fd ["k", "d", "at", "many"] spShear := by
  refine F.ok scShear (fun vs H Q E h => ?_) (fun cdv A outer s H vs Q E hr h => ?_)
  · obtain ⟨k, d, c, n, rfl, _⟩ := h
    rfl
  · obtain ⟨k, d, c, n, rfl, h1, h2, h3, q⟩ := h
    refine ⟨_, pss_one (ps_ret (pe_op op_fdivW (pe_op op_add (pe_op op_mul (pv 0) (pe_op op_sub (pe_op op_mul pe_int (pv 2)) (pe_op op_sub (pv 3) pe_int))) (pv 1)) (pe_op op_mul pe_int (pv 1)))), ?_⟩
    refine ⟨_, rfl, _, rfl, _, _, rfl, rfl, .inl ⟨by decide, by decide⟩, _, rfl, _, _, rfl, rfl, _, _, rfl, rfl, _, _, rfl, rfl, .inl h3, _, rfl, _, _, rfl, rfl, _, rfl, _, _, rfl, rfl, .inl ⟨by decide, by decide⟩, _, _, rfl, rfl, wide_div (b := 40) (by omega) (by omega) (by decide) (by decide), ?_⟩
    have e : Sh57.shift n k d c = (k * (2 * (c : Int) - ((n : Int) - 1)) + (d : Int)) / (2 * (d : Int)) := by
      unfold Sh57.shift
      rw [Int.fdiv_eq_ediv_of_nonneg _ (by omega)]
    rw [e] at q
    exact q
end
end Pg
namespace Pg
open PySem PySem.Spec PyProof.Rows L2
section
variable {P : Program} {w : World} {K : PySem.W.Frag} {mg : Str → Option Value} {base : Heap}
/-! ### dots_of_columns -/
def colD (m : Nat) (f : Nat → Nat → Bool) (c : Nat) : List Nat := (List.range m).filter fun r => f c r
def colsI (n m : Nat) (f : Nat → Nat → Bool) : List (List Int) := (List.range n).map fun c => (colD m f c).map fun x => ((x : Nat) : Int)
theorem colsI_len (n m : Nat) (f : Nat → Nat → Bool) : (colsI n m f).length = n := by simp [colsI]
theorem colsI_get {n m c : Nat} (f : Nat → Nat → Bool) (h : c < n) : (colsI n m f)[c]? = some ((colD m f c).map fun x => ((x : Nat) : Int)) := by simp [colsI, h]
theorem colD_len (m : Nat) (f : Nat → Nat → Bool) (c : Nat) : (colD m f c).length ≤ m := by
  have := List.length_filter_le (fun r => f c r) (List.range m)
  rw [List.length_range] at this
  exact this
def spDots (K : PySem.W.Frag) : Sp := fun vs H Q _ => ∃ (a : Addr) (as : List Addr) (n m : Nat) (f : Nat → Nat → Bool), vs = [.ref a] ∧ PageAt K H a as n m f ∧ n ≤ 256 ∧ 1 ≤ m ∧ m ≤ 256 ∧ ∀ H' p as, Same H H' → RowsAt K H' p as (colsI n m f) → Q (.ref p) H'
theorem scDots : FnScope ["page", "found", "column", "row"] ["page"] (defScope sDots) := ⟨rfl, rfl, rfl, by decide +kernel, rfl, by decide +kernel, by decide +kernel⟩
theorem ok_dots_of_columns {f : Addr} {fd : FuncData} (F : Fun K "dots_of_columns" "dots_of_columns" sDots f fd) (mr : mg "range" = none) (ml : mg "len" = none) : FnOk P w K mg base CX0 1 f fd ["page"] (spDots K) := by
  refine F.ok scDots (fun vs H Q E h => ?_) (fun cdv A outer s H vs Q E hr h => ?_)
  · obtain ⟨a, as, n, m, g, rfl, _⟩ := h
    rfl
  · obtain ⟨a, as, n, m, g, rfl, hA, hn, hm1, hm, q⟩ := h
    have nd := scDots.nd
    refine ⟨_, pss_cons (ps_set (i := 1) nd rfl (.inl rfl) (pe_lst pa_nil))
      (pss_cons (ps_for PassesOwn.never rfl (pi_range1 (by rfl) mr (pa_cons (pe_callB call_len_seq (by rfl) ml PySem.boot_len (pa_cons (pe_ix ix_list (pv 0) pe_int (fun _ _ => rfl)) pa_nil)) pa_nil)) (pg_name (i := 2) nd rfl (.inr rfl))
        (pss_one (ps_expr (pe_bm PySem.F.plainAttrs_list PySem.F.slot_list_append PySem.F.type_list_append mt_append (pv 1) (pa_cons
          (pe_lc (own := [("row", 3)]) (g := gName 3) (by rfl) nd (pi_range1 (by rfl) mr (pa_cons (pe_callB call_len_seq (by rfl) ml PySem.boot_len (pa_cons (pv 0) pa_nil)) pa_nil)) (blkOk_by (own := [("row", 3)]) (N := ["page", "found", "column", "row"]) (sc := defScope sDots) (by decide +kernel))
            (fun _ _ _ _ _ => pg_name (i := 3) nd rfl (Or.inl rfl)) (fun _ _ _ _ _ => pts_one (pt_cmpR op_eq (pe_ix (ixK (K := K)) (pe_ix (ixK (K := K)) (pv 0) (pv 3) (fun _ _ => rfl)) (pv 2) (fun _ _ => rfl)) pe_int (nomark _)))
            (fun _ _ _ _ _ => pv 3)) pa_nil)))))
      (pss_one (ps_ret (pv 1)))), ?_⟩
    have hal : ((as.map V.ref).length : Int) = (m : Int) := by rw [hA.len, rowsI_len]
    refine ⟨Nat.zero_le _, fun o no => ?_⟩
    have s0 : Same H (upd H o (.lst [])) := same_upd no
    obtain ⟨b0, hb0, hB0⟩ := (hA.same s0).row (z := 0) (i := 0) rfl (rowsI_get g hm1)
    refine ⟨_, rfl, a, _, _, _, rfl, rfl, s0.seq hA.lst, hb0, b0, _, rfl, .inl hB0, _, rfl, by omega, by rw [List.length_map, rowI_len]; omega, ?_⟩
    rw [show ((((rowI n fun c => g c 0).map V.int).length : Nat) : Int).toNat = n by rw [List.length_map, rowI_len]; omega]
    refine for_range (fun i σ H' => ∃ v2 v3 as', σ = [some (.ref a), some (.ref o), v2, v3] ∧ Same H H' ∧ RowsOwn H' o as' ((List.range i).map fun c => (colD m g c).map fun x => ((x : Nat) : Int)))
      ⟨none, none, [], rfl, s0, (RowsOwn.start no).2⟩ ?_ ?_
    · rintro i σ H' hi ⟨v2, v3, as', rfl, sm, R⟩
      refine ⟨_, rfl, .inl ⟨rfl, _, SqL.of R.lst⟩, ?_⟩
      refine ⟨_, rfl, a, _, rfl, .inl (sm.seq hA.lst), _, rfl, by omega, by omega, fun D hN => ?_⟩
      rw [hal, show (m : Int).toNat = m by omega]
      refine lc_range (fun j H5 => H5 = upd H' D (.lst (vN ((List.range j).filter fun r => g i r)))) rfl ?_ ?_
      · rintro j H5 hj rfl
        have sD : Same H' (upd H' D (.lst (vN ((List.range j).filter fun r => g i r)))) := same_upd hN
        obtain ⟨b, hb, hB⟩ := (hA.same (sm.trans sD)).row (z := 0 + (j : Int)) (i := j) (by omega) (rowsI_get g hj)
        refine ⟨rfl, _, rfl, _, rfl, a, _, _, _, rfl, rfl, (sm.trans sD).seq hA.lst, hb, _, rfl, b, _, _, _, rfl, rfl, hB, at_ints (j := i) (by omega) (rowI_get _ hi), rfl, _, rfl, ?_⟩
        have ef := filter_range_succ (fun r => g i r) j
        cases e : g i j with
        | false =>
          rw [e] at ef
          rw [if_neg Bool.false_ne_true, List.append_nil] at ef
          refine (if_neg (by show ¬ decide (V.int (bit false) = V.int 1) = true; decide)).mpr ?_
          rw [ef]
        | true =>
          rw [e, if_pos rfl] at ef
          refine (if_pos (by show decide (V.int (bit true) = V.int 1) = true; decide)).mpr ⟨_, rfl, _, upd_same, line_of ?_, ?_⟩
          · rw [vN_len]
            have := List.length_filter_le (fun r => g i r) (List.range j)
            rw [List.length_range] at this
            omega
          · rw [upd_upd, ef, vN_snoc, Int.zero_add]
      · rintro H5 rfl
        have eD : (upd H' D (.lst (vN ((List.range m).filter fun r => g i r)))) D = some (.lst (((colD m g i).map fun x => ((x : Nat) : Int)).map V.int)) := by
          rw [upd_same, ← vN_ints]
          rfl
        obtain ⟨h1, h2, h3, h4⟩ := rows_push no sm R (same_upd hN) hN eD (by rw [List.length_map, List.length_range]; omega)
        refine ⟨o, _, _, rfl, rfl, h1, h2, _, _, as' ++ [D], rfl, h3, ?_⟩
        rw [List.range_succ, List.map_append]
        exact h4
    · rintro σ H' ⟨v2, v3, as', rfl, sm, R⟩
      exact ⟨_, rfl, q H' o as' sm R.at⟩
/-! ### counts_sheared -/
def spCountsSheared (K : PySem.W.Frag) : Sp := fun vs H Q _ => ∃ (a : Addr) (as : List Addr) (n m : Nat) (f : Nat → Nat → Bool) (k : Int) (d : Nat), vs = [.ref a, .int (m : Int), .int k, .int (d : Int)] ∧ RowsAt K H a as (colsI n m f) ∧ n ≤ 256 ∧ m ≤ 256 ∧ 1 ≤ d ∧ d ≤ 4096 ∧ (-4096 ≤ k ∧ k ≤ 4096) ∧
  ∀ H' p, Same H H' → H p = none → H' p = some (.lst (vN (shL n m k d f))) → Q (.ref p) H'
theorem scCountsSheared : FnScope ["columns", "high", "k", "d", "found", "column", "move", "row"] ["columns", "high", "k", "d"] (defScope sCountsSheared) := ⟨rfl, rfl, rfl, by decide +kernel, rfl, by decide +kernel, by decide +kernel⟩
theorem ok_counts_sheared {f : Addr} {fd : FuncData} (F : Fun K "counts_sheared" "counts_sheared" sCountsSheared f fd) (hS : Has P w K mg base "shear" 1 ["k", "d", "at", "many"] spShear) (mr : mg "range" = none) (ml : mg "len" = none) : FnOk P w K mg base CX0 2 f fd ["columns", "high", "k", "d"] (spCountsSheared K) := by
  refine F.ok scCountsSheared (fun vs H Q E h => ?_) (fun cdv A outer s H vs Q E hr h => ?_)
  · obtain ⟨a, as, n, m, g, k, d, rfl, _⟩ := h
    rfl
  · obtain ⟨a, as, n, m, g, k, d, rfl, hA, hn, hm, d1, d2, hk, q⟩ := h
    have nd := scCountsSheared.nd
    refine ⟨_, pss_cons (ps_setLc (i := 4) (own := [("row", 7)]) (g := gName 7) (tt := tYes) (by rfl) nd rfl rfl (sw_true rfl rfl rfl (by decide +kernel)) (pi_range1 (by rfl) mr (pa_cons (pv 1) pa_nil))
        (blkOk_by (own := [("row", 7)]) (N := ["columns", "high", "k", "d", "found", "column", "move", "row"]) (sc := defScope sCountsSheared) (by decide +kernel))
        (fun _ _ _ _ _ => pg_name (i := 7) nd rfl (Or.inl rfl)) (fun _ _ _ _ _ => pts_nil) (fun _ _ _ _ _ => pe_int))
      (pss_cons (ps_for PassesOwn.never rfl (pi_range1 (by rfl) mr (pa_cons (pe_callB call_len_seq (by rfl) ml PySem.boot_len (pa_cons (pv 0) pa_nil)) pa_nil)) (pg_name (i := 5) nd rfl (.inl rfl))
        (pss_cons (ps_set (i := 6) nd rfl (.inl rfl) (pe_has hS hr (pa_cons (pv 2) (pa_cons (pv 3) (pa_cons (pv 5) (pa_cons (pe_callB call_len_seq (by rfl) ml PySem.boot_len (pa_cons (pv 0) pa_nil)) pa_nil))))))
        (pss_one (ps_for PassesOwn.never rfl (pi_list (pe_ix ix_list (pv 0) (pv 5) (fun _ _ => rfl))) (pg_name (i := 7) nd rfl (.inl rfl))
          (pss_one (ps_if (pw_and (pt_cmpR op_le pe_int (pe_op op_add (pv 7) (pv 6)) (nomark _)) (pw_and1 (pt_cmpR op_lt (pe_op op_add (pv 7) (pv 6)) (pv 1) (nomark _)))).pt
            (pss_one (ps_asg (pe_op op_add (pe_ix ix_list (pv 4) (pe_op op_add (pv 7) (pv 6)) (fun _ _ => rfl)) pe_int) (pg_sub (pv 4) (pe_op op_add (pv 7) (pv 6)) set_list))) pss_nil))))))
      (pss_one (ps_ret (pv 4)))), ?_⟩
    have hal : (((as.map V.ref).length : Nat) : Int) = (n : Int) := by rw [hA.len, colsI_len]
    refine ⟨_, rfl, _, rfl, by omega, by omega, fun o no => ?_⟩
    rw [show (m : Int).toNat = m by omega]
    refine lc_range (fun i H' => H' = upd H o (.lst ((List.range i).map fun _ => V.int 0))) rfl ?_ ?_
    · rintro i H' hi rfl
      exact ⟨rfl, tYes_of (iteT (lc_push rfl (by omega)))⟩
    · rintro H1 e1
      have s1 : Same H H1 := by rw [e1]; exact same_upd no
      have eo1 : H1 o = some (.lst (vN ((List.range m).map fun r => cnt 0 fun c => shG n m k d g c r))) := by
        rw [e1, upd_same]
        unfold vN
        rw [List.map_map]
        rfl
      refine ⟨_, rfl, a, _, rfl, .inl (s1.seq hA.lst), _, rfl, by omega, by omega, ?_⟩
      rw [hal]
      refine for_range (fun i σ H' => ∃ v5 v6 v7, σ = [some (.ref a), some (.int (m : Int)), some (.int k), some (.int (d : Int)), some (.ref o), v5, v6, v7] ∧ Same H H' ∧ H' o = some (.lst (vN ((List.range m).map fun r => cnt i fun c => shG n m k d g c r))))
        ⟨none, none, none, rfl, s1, eo1⟩ ?_ ?_
      · rintro i σ H' hi ⟨v5, v6, v7, rfl, sm, eo⟩
        have hi2 : i < n := by omega
        refine ⟨_, rfl, _, rfl, _, rfl, _, rfl, a, _, rfl, .inl (sm.seq hA.lst), k, d, i, n, by rw [Int.zero_add, hal]; rfl, d1, by omega, by omega, ?_⟩
        obtain ⟨b, hb, hB⟩ := hA.row (z := 0 + (i : Int)) (i := i) (by omega) (colsI_get (m := m) g hi2)
        rw [← vN_ints] at hB
        refine ⟨_, rfl, _, rfl, a, _, _, _, rfl, rfl, sm.seq hA.lst, hb, b, rfl, ⟨_, sm.seq hB⟩, ?_⟩
        refine for_list (K := K) (a := b) (xs := vN (colD m g i)) (fun j σ H5 => ∃ v7, σ = [some (.ref a), some (.int (m : Int)), some (.int k), some (.int (d : Int)), some (.ref o), some (.int (0 + (i : Int))), some (.int (Sh57.shift n k d i)), v7] ∧ Same H H5 ∧
            H5 o = some (.lst (vN ((List.range m).map fun r => (cnt i fun c => shG n m k d g c r) + occ ((colD m g i).take j) (Sh57.shift n k d i) r))))
          ⟨v7, rfl, sm, eo⟩ (fun j σ H5 _ ⟨_, _, sm5, _⟩ => sm5.seq hB) ?_ ?_
        · rintro j x σ H5 hj ⟨v7, rfl, sm5, eo5⟩
          obtain ⟨r, hr0, rfl⟩ := vN_get hj
          have et := take_snoc hr0
          have step : ∀ r', occ ((colD m g i).take (j + 1)) (Sh57.shift n k d i) r' = occ ((colD m g i).take j) (Sh57.shift n k d i) r' + if (r : Int) + Sh57.shift n k d i = (r' : Int) then 1 else 0 := fun r' => by
            rw [et, occ_snoc]
          have keep : ¬ (0 ≤ (r : Int) + Sh57.shift n k d i ∧ (r : Int) + Sh57.shift n k d i < (m : Int)) →
              ((List.range m).map fun r' => (cnt i fun c => shG n m k d g c r') + occ ((colD m g i).take j) (Sh57.shift n k d i) r') = (List.range m).map fun r' => (cnt i fun c => shG n m k d g c r') + occ ((colD m g i).take (j + 1)) (Sh57.shift n k d i) r' := fun hno =>
            counts_same fun r' hr' => by rw [step, if_neg (by omega)]; rfl
          refine ⟨_, rfl, _, rfl, _, _, rfl, rfl, _, _, rfl, rfl, _, rfl, ite2 (fun e => ?_) (fun e => ?_)⟩
          · have e : 0 ≤ (r : Int) + Sh57.shift n k d i := of_decide_eq_true e
            refine ⟨_, rfl, _, rfl, _, _, rfl, rfl, _, rfl, _, _, rfl, rfl, _, rfl, ite2 (fun e2 => ?_) (fun e2 => ?_)⟩
            · have e2 : (r : Int) + Sh57.shift n k d i < (m : Int) := of_decide_eq_true e2
              have ht : ((r : Int) + Sh57.shift n k d i).toNat < m := by omega
              have ez : (r : Int) + Sh57.shift n k d i = ((((r : Int) + Sh57.shift n k d i).toNat : Nat) : Int) := by omega
              refine ⟨_, rfl, _, rfl, _, rfl, _, _, rfl, rfl, o, _, _, _, rfl, rfl, SqL.of eo5, at_nat ez (by simpa using ht), _, _, rfl, rfl, _, rfl, _, rfl, _, rfl, _, _, rfl, rfl, o, _, _, _, rfl, rfl, eo5, ixN_of ez (by rw [vN_len]; simpa using ht), ?_⟩
              refine ⟨_, rfl, same_write sm5 no, ?_⟩
              rw [upd_same]
              have key := counts_set (F := fun r' => (cnt i fun c => shG n m k d g c r') + occ ((colD m g i).take j) (Sh57.shift n k d i) r')
                (F' := fun r' => (cnt i fun c => shG n m k d g c r') + occ ((colD m g i).take (j + 1)) (Sh57.shift n k d i) r') ht (fun r' hr' => by
                  show _ = _ + _ + _
                  rw [step]
                  by_cases h : r' = ((r : Int) + Sh57.shift n k d i).toNat
                  · rw [if_pos h, if_pos (by omega)]
                    omega
                  · rw [if_neg h, if_neg (by omega)]
                    omega)
              rw [← key]
              unfold vN
              rw [List.map_set]
              congr 3
              simp [ht]
            · have e2 : ¬ (r : Int) + Sh57.shift n k d i < (m : Int) := fun h => e2 (decide_eq_true h)
              refine ⟨_, rfl, sm5, ?_⟩
              rw [← keep (by omega)]
              exact eo5
          · have e : ¬ 0 ≤ (r : Int) + Sh57.shift n k d i := fun h => e (decide_eq_true h)
            refine iteF ⟨_, rfl, sm5, ?_⟩
            rw [← keep (by omega)]
            exact eo5
        · rintro σ H5 ⟨v7, rfl, sm5, eo5⟩
          refine ⟨_, _, _, rfl, sm5, ?_⟩
          rw [vN_len, List.take_length] at eo5
          rw [eo5]
          congr 3
          refine List.map_congr_left fun r hr => ?_
          show _ + _ = _
          rw [cnt_succ]
          congr 1
          exact occ_col hi2 r
      · rintro σ H' ⟨v5, v6, v7, rfl, sm, eo⟩
        rw [show (n : Int).toNat = n by omega] at eo
        exact ⟨_, rfl, q H' o sm no eo⟩
end
end Pg
namespace Pg
open PySem PySem.Spec PyProof.Rows L2
section
variable {P : Program} {w : World} {K : PySem.W.Frag} {mg : Str → Option Value} {base : Heap}
/-! ### is_shear -/
def spIsShear : Sp := fun vs H Q _ => ∃ (k : Int) (d n m : Nat), vs = [.int k, .int (d : Int), .int (n : Int), .int (m : Int)] ∧ Q (.bl (Sh57.shearOk k d n m)) H
theorem scIsShear : FnScope ["k", "d", "w", "h"] ["k", "d", "w", "h"] (defScope sIsShear) := ⟨rfl, rfl, rfl, by decide +kernel, rfl, by decide +kernel, by decide +kernel⟩
theorem shearOk_iff {k : Int} {d n m : Nat} : Sh57.shearOk k d n m = true ↔ ((1 ≤ n ∧ n ≤ 256) ∧ (1 ≤ m ∧ m ≤ 256)) ∧ (-4096 ≤ k ∧ k ≤ 4096) ∧ (1 ≤ d ∧ d ≤ 4096) := by
  unfold Sh57.shearOk Sh57.among
  rw [Bool.and_eq_true, Bool.and_eq_true, Bool.and_eq_true, sized_iff, decide_eq_true_eq, decide_eq_true_eq, decide_eq_true_eq]
theorem shearOk_no {k : Int} {d n m : Nat} (h : ¬ ((-4096 ≤ k ∧ k ≤ 4096) ∧ (1 ≤ d ∧ d ≤ 4096))) : Sh57.shearOk k d n m = false := by
  rw [← Bool.not_eq_true]
  exact fun z => h (shearOk_iff.mp z).2
theorem shearOk_size {k : Int} {d n m : Nat} (h : (-4096 ≤ k ∧ k ≤ 4096) ∧ (1 ≤ d ∧ d ≤ 4096)) : Sh57.shearOk k d n m = Sh57.sized n m := by
  cases hs : Sh57.sized n m with
  | true => exact shearOk_iff.mpr ⟨sized_iff.mp hs, h⟩
  | false =>
    rw [← Bool.not_eq_true]
    intro z
    rw [sized_iff.mpr (shearOk_iff.mp z).1] at hs
    cases hs
theorem ok_is_shear {f : Addr} {fd : FuncData} {t : Tok} (F : Fun K "is_shear" "is_shear" sIsShear f fd) (hZ : Has P w K mg base "is_size" 1 ["wide", "high"] spIsSize) (gM : mg "MOST_SHEAR" = some (.int 4096 t)) : FnOk P w K mg base CX0 2 f fd ["k", "d", "w", "h"] spIsShear := by
  refine F.ok scIsShear (fun vs H Q E h => ?_) (fun cdv A outer s H vs Q E hr h => ?_)
  · obtain ⟨k, d, n, m, rfl, _⟩ := h
    rfl
  · obtain ⟨k, d, n, m, rfl, q⟩ := h
    refine ⟨_, pss_one (ps_ret (pe_and (pe_cmpR op_le (pe_op op_sub pe_int (pe_gi gM)) (pv 0) (nomark _)) (pe_and (pe_cmpR op_le (pv 0) (pe_gi gM) (nomark _)) (pe_and (pe_cmpR op_le pe_int (pv 1) (nomark _)) (pe_and (pe_cmpR op_le (pv 1) (pe_gi gM) (nomark _))
      (pe_one (pe_has hZ hr (pa_cons (pv 2) (pa_cons (pv 3) pa_nil))))))))), ?_⟩
    refine ⟨_, _, rfl, rfl, _, rfl, _, _, rfl, rfl, _, rfl, ite2 (fun e1 => ?_) (fun e1 => ?_)⟩
    · have e1 : (0 : Int) - 4096 ≤ k := of_decide_eq_true e1
      refine ⟨_, rfl, _, _, rfl, rfl, _, rfl, ite2 (fun e2 => ?_) (fun e2 => ?_)⟩
      · have e2 : k ≤ 4096 := of_decide_eq_true e2
        refine ⟨_, rfl, _, _, rfl, rfl, _, rfl, ite2 (fun e3 => ?_) (fun e3 => ?_)⟩
        · have e3 : (1 : Int) ≤ (d : Int) := of_decide_eq_true e3
          refine ⟨_, rfl, _, _, rfl, rfl, _, rfl, ite2 (fun e4 => ?_) (fun e4 => ?_)⟩
          · have e4 : (d : Int) ≤ 4096 := of_decide_eq_true e4
            rw [shearOk_size (by omega)] at q
            exact ⟨_, rfl, _, rfl, n, m, rfl, q⟩
          · have e4 : ¬ (d : Int) ≤ 4096 := fun h => e4 (decide_eq_true h)
            rw [shearOk_no (by omega)] at q
            exact q
        · have e3 : ¬ (1 : Int) ≤ (d : Int) := fun h => e3 (decide_eq_true h)
          rw [shearOk_no (by omega)] at q
          exact q
      · have e2 : ¬ k ≤ 4096 := fun h => e2 (decide_eq_true h)
        rw [shearOk_no (by omega)] at q
        exact q
    · have e1 : ¬ (0 : Int) - 4096 ≤ k := fun h => e1 (decide_eq_true h)
      rw [shearOk_no (by omega)] at q
      exact q
end
end Pg
namespace Pg
open PySem PySem.Spec PyProof.Rows L2
open PySem.W (Codec WData)
section
variable {P : Program} {w : World} {K : PySem.W.Frag} {mg : Str → Option Value} {base : Heap}
/-! ### straight -/
theorem shL_len (n m : Nat) (k : Int) (d : Nat) (f : Nat → Nat → Bool) : (shL n m k d f).length = m := by simp [shL]
theorem shL_le {n m : Nat} {k : Int} {d : Nat} {f : Nat → Nat → Bool} (hn : n ≤ 256) : ∀ x ∈ shL n m k d f, x ≤ 4294967295 := fun x hx => by
  obtain ⟨r, _, rfl⟩ := List.mem_map.mp hx
  exact Nat.le_trans (cnt_le n _) (by omega)
/-- how sharp the rows are, sheared by k -/
def shS (n m d : Nat) (f : Nat → Nat → Bool) (k : Int) : Nat := Sh57.sharp (shL n m k d f)
def spStraight (K : PySem.W.Frag) : Sp := fun vs H Q _ => ∃ (a : Addr) (as : List Addr) (n m : Nat) (f : Nat → Nat → Bool) (t d : Nat), vs = [.ref a, .int (t : Int), .int (d : Int)] ∧ PageAt K H a as n m f ∧ 1 ≤ n ∧ n ≤ 256 ∧ 1 ≤ m ∧ m ≤ 256 ∧ 1 ≤ d ∧ d ≤ 4096 ∧ t ≤ 64 ∧
  ∀ H' p, H' p = some (.tup [.int (bestOf (shS n m d f) (tried t)).1, .int (((bestOf (shS n m d f) (tried t)).2 : Nat) : Int)]) → Q (.ref p) H'
theorem scStraight : FnScope ["page", "most", "d", "columns", "best", "sharpest", "size", "k", "found"] ["page", "most", "d"] (defScope sStraight) := ⟨rfl, rfl, rfl, by decide +kernel, rfl, by decide +kernel, by decide +kernel⟩
theorem ok_straight {f : Addr} {fd : FuncData} (F : Fun K "straight" "straight" sStraight f fd) (hD : Has P w K mg base "dots_of_columns" 1 ["page"] (spDots K)) (hS : Has P w K mg base "sharp" 1 ["numbers"] (spSharp K))
    (hC : Has P w K mg base "counts_sheared" 2 ["columns", "high", "k", "d"] (spCountsSheared K)) (mr : mg "range" = none) (ml : mg "len" = none) : FnOk P w K mg base CX0 3 f fd ["page", "most", "d"] (spStraight K) := by
  refine F.ok scStraight (fun vs H Q E h => ?_) (fun cdv A outer s H vs Q E hr h => ?_)
  · obtain ⟨a, as, n, m, g, t, d, rfl, _⟩ := h
    rfl
  · obtain ⟨a, as, n, m, g, t, d, rfl, hA, n1, n2, m1, m2, d1, d2, ht, q⟩ := h
    have nd := scStraight.nd
    have hr1 := hr.mono (show 1 ≤ 2 by decide)
    refine ⟨_, pss_cons (ps_set (i := 3) nd rfl (.inl rfl) (pe_has hD hr1 (pa_cons (pv 0) pa_nil)))
      (pss_cons (ps_set (i := 4) nd rfl (.inl rfl) pe_int)
      (pss_cons (ps_set (i := 5) nd rfl (.inl rfl) (pe_has hS hr1 (pa_cons (pe_has hC hr (pa_cons (pv 3) (pa_cons (pe_callB call_len_seq (by rfl) ml PySem.boot_len (pa_cons (pv 0) pa_nil)) (pa_cons pe_int (pa_cons (pv 2) pa_nil))))) pa_nil)))
      (pss_cons (ps_for PassesOwn.never rfl (pi_range2 (by rfl) mr (pa_cons pe_int (pa_cons (pe_op op_add (pv 1) pe_int) pa_nil))) (pg_name (i := 6) nd rfl (.inl rfl))
        (pss_one (ps_for PassesOwn.never rfl (pi_tup (pe_tup (pa_cons (pe_op op_sub pe_int (pv 6)) (pa_cons (pv 6) pa_nil)))) (pg_name (i := 7) nd rfl (.inl rfl))
          (pss_cons (ps_set (i := 8) nd rfl (.inl rfl) (pe_has hS hr1 (pa_cons (pe_has hC hr (pa_cons (pv 3) (pa_cons (pe_callB call_len_seq (by rfl) ml PySem.boot_len (pa_cons (pv 0) pa_nil)) (pa_cons (pv 7) (pa_cons (pv 2) pa_nil))))) pa_nil)))
          (pss_one (ps_if (pt_cmpR op_gt (pv 8) (pv 5) (nomark _)) (pss_cons (ps_set (i := 4) nd rfl (.inl rfl) (pv 7)) (pss_one (ps_set (i := 5) nd rfl (.inl rfl) (pv 8)))) pss_nil))))))
      (pss_one (ps_ret (pe_tup (pa_cons (pv 4) (pa_cons (pv 5) pa_nil)))))))), ?_⟩
    have hal : (((as.map V.ref).length : Nat) : Int) = (m : Int) := by rw [hA.len, rowsI_len]
    refine ⟨_, rfl, a, as, n, m, g, rfl, hA, n2, m1, m2, fun H1 c cs s1 C1 => ?_⟩
    refine ⟨_, rfl, _, rfl, a, _, rfl, .inl (s1.seq hA.lst), _, rfl, c, cs, n, m, g, 0, d, by rw [hal]; rfl, C1, n2, m2, d1, d2, by omega, fun H2 p2 s2 np2 e2 => ?_⟩
    refine ⟨p2, _, rfl, SqL.of e2, by rw [shL_len]; omega, shL_le n2, ?_⟩
    refine ⟨_, rfl, _, _, rfl, rfl, _, _, rfl, ⟨by decide, by decide, by omega, by omega⟩, ?_⟩
    rw [show ((t : Int) + 1 - 1).toNat = t by omega]
    refine for_range (fun i σ H' => ∃ v6 v7 v8, σ = [some (.ref a), some (.int (t : Int)), some (.int (d : Int)), some (.ref c), some (.int (bestOf (shS n m d g) (tried i)).1), some (.int (((bestOf (shS n m d g) (tried i)).2 : Nat) : Int)), v6, v7, v8] ∧ Same H1 H')
      ⟨none, none, none, rfl, s2⟩ ?_ ?_
    · rintro i σ H' hi ⟨v6, v7, v8, rfl, sm⟩
      refine ⟨_, rfl, _, _, rfl, rfl, _, rfl, line_le (by show 2 ≤ _; decide), fun p7 np7 => ?_⟩
      have s7 : Same H' (upd H' p7 (.tup [.int (0 - (1 + (i : Int))), .int (1 + (i : Int))])) := same_upd np7
      have e7 : (upd H' p7 (.tup [.int (0 - (1 + (i : Int))), .int (1 + (i : Int))])) p7 = some (.tup [.int (0 - (1 + (i : Int))), .int (1 + (i : Int))]) := upd_same
      generalize upd H' p7 (.tup [.int (0 - (1 + (i : Int))), .int (1 + (i : Int))]) = H7 at s7 e7 ⊢
      refine ⟨p7, rfl, ⟨_, .inl (.inl e7)⟩, for_tup (K := K) (a := p7) (xs := [0 - (1 + (i : Int)), 1 + (i : Int)].map V.int) (fun j σ H5 => ∃ v7 v8, σ = [some (.ref a), some (.int (t : Int)), some (.int (d : Int)), some (.ref c),
          some (.int (bestOf (shS n m d g) (tried i ++ [0 - (1 + (i : Int)), 1 + (i : Int)].take j)).1), some (.int (((bestOf (shS n m d g) (tried i ++ [0 - (1 + (i : Int)), 1 + (i : Int)].take j)).2 : Nat) : Int)), some (.int (1 + (i : Int))), v7, v8] ∧ Same H7 H5)
        ⟨v7, v8, by rw [List.take_zero, List.append_nil]; rfl, Same.refl _⟩ (fun j σ H5 _ ⟨_, _, _, s5⟩ => .inl (.inl (s5 _ _ e7))) ?_ ?_⟩
      · rintro j x σ H5 hj ⟨v7, v8, rfl, s5⟩
        obtain ⟨z, hz, rfl⟩ : ∃ z, [0 - (1 + (i : Int)), 1 + (i : Int)][j]? = some z ∧ x = V.int z := by
          rw [List.getElem?_map] at hj
          cases e : [0 - (1 + (i : Int)), 1 + (i : Int)][j]? with
          | none =>
            rw [e] at hj
            cases hj
          | some z =>
            rw [e] at hj
            exact ⟨z, rfl, (Option.some.inj hj).symm⟩
        have hzb : -4096 ≤ z ∧ z ≤ 4096 := by
          have zm := List.mem_of_getElem? hz
          simp only [List.mem_cons, List.not_mem_nil, or_false] at zm
          rcases zm with rfl | rfl <;> omega
        have sA := (sm.trans s7).trans s5
        refine ⟨_, rfl, _, rfl, a, _, rfl, .inl ((s1.trans sA).seq hA.lst), _, rfl, _, rfl, c, cs, n, m, g, z, d, by rw [hal]; rfl, C1.same sA, n2, m2, d1, d2, hzb, fun H8 p8 s8 np8 e8 => ?_⟩
        refine ⟨p8, _, rfl, SqL.of e8, by rw [shL_len]; omega, shL_le n2, ?_⟩
        have et : bestOf (shS n m d g) (tried i ++ [0 - (1 + (i : Int)), 1 + (i : Int)].take (j + 1)) = stp (shS n m d g) (bestOf (shS n m d g) (tried i ++ [0 - (1 + (i : Int)), 1 + (i : Int)].take j)) z := by
          rw [take_snoc hz, ← List.append_assoc, bestOf_snoc]
        rw [et]
        generalize bestOf (shS n m d g) (tried i ++ [0 - (1 + (i : Int)), 1 + (i : Int)].take j) = b
        refine ⟨_, rfl, _, rfl, _, _, rfl, rfl, _, rfl, ite2 (fun e => ?_) (fun e => ?_)⟩
        · have e : ((b.2 : Nat) : Int) < ((Sh57.sharp (shL n m z d g) : Nat) : Int) := of_decide_eq_true e
          have e2 : stp (shS n m d g) b z = (z, shS n m d g z) := if_pos (by show b.2 < Sh57.sharp (shL n m z d g); omega)
          rw [e2]
          exact ⟨_, rfl, _, rfl, _, _, rfl, s5.trans s8⟩
        · have e : ¬ ((b.2 : Nat) : Int) < ((Sh57.sharp (shL n m z d g) : Nat) : Int) := fun h => e (decide_eq_true h)
          have e2 : stp (shS n m d g) b z = b := if_neg (by show ¬ b.2 < Sh57.sharp (shL n m z d g); omega)
          rw [e2]
          exact ⟨_, _, rfl, s5.trans s8⟩
      · rintro σ H5 ⟨v7, v8, rfl, s5⟩
        exact ⟨_, _, _, rfl, (sm.trans s7).trans s5⟩
    · rintro σ H' ⟨v6, v7, v8, rfl, sm⟩
      exact ⟨_, rfl, _, rfl, line_le (by show 2 ≤ _; decide), fun p hp => q _ p upd_same⟩
/-! ### st_straight -/
theorem straightOk_iff {t d n m : Nat} : Sh57.straightOk t d n m = true ↔ t ≤ 64 ∧ Sh57.shearOk 0 d n m = true := by
  unfold Sh57.straightOk Sh57.shearOk
  simp only [Bool.and_eq_true, decide_eq_true_eq]
  constructor
  · rintro ⟨a, b, c⟩
    exact ⟨b, a, by omega, c⟩
  · rintro ⟨a, b, _, c⟩
    exact ⟨b, a, c⟩
theorem st_straight_is (t d w h : Nat) (xs : List Nat) : PySh57.st_straight (t : Int) (d : Int) (w : Int) (h : Int) (castL xs) = if Sh57.straightOk t d w h = true then
    [0, 1, (bestOf (shS w h d (bitOf w xs)) (tried t)).1 % 4294967296, 1, (((bestOf (shS w h d (bitOf w xs)) (tried t)).2 : Nat) : Int)] else [-2] := by
  show Sh57Neutral.told (Sh57.answer (if Sh57.straightOk ((t : Int).toNat) ((d : Int).toNat) ((w : Int).toNat) ((h : Int).toNat) = true then Sh57.Call.straight ((t : Int).toNat) ((d : Int).toNat) ((w : Int).toNat) ((h : Int).toNat) (Sh57Neutral.nats (castL xs)) else _)) = _
  rw [nats_cast', Int.toNat_natCast, Int.toNat_natCast, Int.toNat_natCast, Int.toNat_natCast]
  by_cases hs : Sh57.straightOk t d w h = true
  · rw [if_pos hs, if_pos hs]
    have d1 := (shearOk_iff.mp (straightOk_iff.mp hs).2).2.2.1
    show [(0 : Int), 1, (((Sh57.straightest w h t d (Sh57.page w h xs)).1 % 4294967296).toNat : Int), 1, (((Sh57.straightest w h t d (Sh57.page w h xs)).2 : Nat) : Int)] = _
    rw [page_is, straightest_is w h d t (bitOf w xs) d1, Int.toNat_of_nonneg (Int.emod_nonneg _ (by decide))]
    rfl
  · rw [if_neg hs, if_neg hs]
    rfl
def spStStraight (K : PySem.W.Frag) : Sp := fun vs H Q _ => ∃ (t d n m : Nat) (a : Addr) (xs : List Nat), vs = [.int (t : Int), .int (d : Int), .int (n : Int), .int (m : Int), .ref a] ∧ SqL K H a (vN xs) ∧ (Sh57.straightOk t d n m = true → xs.length = m * Sh57.wide n) ∧
  ∀ H' p, H' p = some (.lst ((PySh57.st_straight (t : Int) (d : Int) (n : Int) (m : Int) (castL xs)).map V.int)) → Q (.ref p) H'
theorem scStStraight : FnScope ["m", "d", "w", "h", "x", "best", "sharpest"] ["m", "d", "w", "h", "x"] (defScope sStStraight) := ⟨rfl, rfl, rfl, by decide +kernel, rfl, by decide +kernel, by decide +kernel⟩
theorem ok_st_straight {f : Addr} {fd : FuncData} {t1 t2 : Tok} (F : Fun K "st_straight" "st_straight" sStStraight f fd) (hZ : Has P w K mg base "is_shear" 2 ["k", "d", "w", "h"] spIsShear) (hU : Has P w K mg base "straight" 3 ["page", "most", "d"] (spStraight K))
    (hP : Has P w K mg base "page_from" 2 ["words", "wide", "high"] (spPageFrom K)) (hW : Has P w K mg base "as_word" 1 ["number"] spAsWord) (gT : mg "MOST_TRIED" = some (.int 64 t2)) (gB : mg "BAD" = some (.int (-2) t1)) : FnOk P w K mg base CX0 4 f fd ["m", "d", "w", "h", "x"] (spStStraight K) := by
  refine F.ok scStStraight (fun vs H Q E h => ?_) (fun cdv A outer s H vs Q E hr h => ?_)
  · obtain ⟨t, d, n, m, a, xs, rfl, _⟩ := h
    rfl
  · obtain ⟨t, d, n, m, a, xs, rfl, hA, hx, q⟩ := h
    have hr1 := hr.mono (show 1 ≤ 3 by decide)
    have hr2 := hr.mono (show 2 ≤ 3 by decide)
    have nd := scStStraight.nd
    refine ⟨_, pss_cons (ps_if (pw_or (pt_cmpR op_gt (pv 0) (pe_gi gT) (nomark _)) (pw_or1 (pt_not (pt_val (pe_has hZ hr2 (pa_cons pe_int (pa_cons (pv 1) (pa_cons (pv 2) (pa_cons (pv 3) pa_nil))))))))).pt (pss_one (ps_ret (pe_lst (pa_cons (pe_gi gB) pa_nil)))) pss_nil)
      (pss_cons (ps_asg (pe_has hU hr (pa_cons (pe_has hP hr2 (pa_cons (pv 4) (pa_cons (pv 2) (pa_cons (pv 3) pa_nil)))) (pa_cons (pv 0) (pa_cons (pv 1) pa_nil)))) (pg_tup rfl (pgs_cons (pg_name (i := 5) nd rfl (Or.inl rfl)) (pgs_cons (pg_name (i := 6) nd rfl (Or.inl rfl)) pgs_nil))))
      (pss_one (ps_ret (pe_lst (pa_cons pe_int (pa_cons pe_int (pa_cons (pe_has hW hr1 (pa_cons (pv 5) pa_nil)) (pa_cons pe_int (pa_cons (pv 6) pa_nil))))))))), ?_⟩
    rw [st_straight_is] at q
    refine ⟨_, rfl, _, _, rfl, rfl, _, rfl, ite2 (fun e => ?_) (fun e => ?_)⟩
    · have e : (64 : Int) < (t : Int) := of_decide_eq_true e
      rw [if_neg (fun z => by have := (straightOk_iff.mp z).1; omega)] at q
      exact iteT ⟨line_le (by show 1 ≤ _; decide), fun p hp => q _ p upd_same⟩
    · have e : ¬ (64 : Int) < (t : Int) := fun h => e (decide_eq_true h)
      refine ⟨_, rfl, _, rfl, _, rfl, 0, d, n, m, rfl, _, rfl, ?_⟩
      cases hs : Sh57.shearOk 0 d n m with
      | false =>
        rw [if_neg (fun z => by rw [(straightOk_iff.mp z).2] at hs; cases hs)] at q
        exact iteT ⟨line_le (by show 1 ≤ _; decide), fun p hp => q _ p upd_same⟩
      | true =>
        have ho := straightOk_iff.mpr ⟨show t ≤ 64 by omega, hs⟩
        rw [if_pos ho] at q
        obtain ⟨⟨⟨n1, n2⟩, m1, m2⟩, hk, d1, d2⟩ := shearOk_iff.mp hs
        refine iteF ⟨_, rfl, _, rfl, _, rfl, a, xs, n, m, rfl, hA, hx ho, n2, m2, fun H1 p1 as1 s1 A1 => ?_⟩
        refine ⟨_, rfl, _, rfl, p1, as1, n, m, _, t, d, rfl, A1, n1, n2, m1, m2, d1, d2, by omega, fun H2 p2 e2 => ?_⟩
        refine ⟨p2, _, rfl, .inl (.inl e2), rfl, _, _, rfl, _, _, rfl, rfl, ?_⟩
        refine ⟨_, rfl, _, rfl, _, rfl, line_le (by show 5 ≤ _; decide), fun p hp => ?_⟩
        exact q _ p upd_same
theorem end_straight {H : Hp} {xs : List V} {u t z y : Int} {l : List Int} (hwi : (Codec.inInt 0 4294967295 u && (Codec.inInt 0 4294967295 t && (Codec.inInt 0 4294967295 z && (Codec.inInt 0 4294967295 y && ((Codec.inLen 0 2313 l && l.all (Codec.inInt 0 4294967295)) && true))))) = true)
    (hask : PySh57.st_straight_asked u t z y l = true) (hx : DwAll K H xs [.int u, .int t, .int z, .int y, .list (l.map WData.int)]) : spStStraight K xs H (fun v H' => Dw K H' v (.list ((PySh57.st_straight u t z y l).map WData.int))) fun _ _ _ => False := by
  rw [Bool.and_true, Bool.and_eq_true, Bool.and_eq_true, Bool.and_eq_true, Bool.and_eq_true] at hwi
  obtain ⟨k, rfl, _⟩ := nat_of hwi.1
  obtain ⟨d, rfl, _⟩ := nat_of hwi.2.1
  obtain ⟨n, rfl, _⟩ := nat_of hwi.2.2.1
  obtain ⟨m, rfl, _⟩ := nat_of hwi.2.2.2.1
  obtain ⟨ns, rfl, hl, hb⟩ := list_of hwi.2.2.2.2
  obtain ⟨va, ra, rfl, ea, hxa⟩ := dw_one_of hx
  obtain ⟨v0, r0, rfl, e0, hx0⟩ := dw_one_of hxa
  obtain ⟨v1, r1, rfl, e1, hx1⟩ := dw_one_of hx0
  obtain ⟨v2, r2, rfl, e2, hx2⟩ := dw_one_of hx1
  obtain ⟨v, r, rfl, e, hx3⟩ := dw_one_of hx2
  obtain ⟨a, rfl, hS⟩ := list_dw e
  cases dw_nil_of hx3
  cases int_dw ea
  cases int_dw e0
  cases int_dw e1
  cases int_dw e2
  refine ⟨k, d, n, m, a, ns, rfl, ?_, fun hs => ?_, fun H' p hp => ans_dw hp⟩
  · rw [vN_ints]
    exact hS
  · have z := asked_sized (w := ((n : Int)).toNat) (h := ((m : Int)).toNat) (by rw [Int.toNat_natCast, Int.toNat_natCast, Int.toNat_natCast, Int.toNat_natCast]; exact hs) (asked_straight hask)
    rw [List.length_map, Int.toNat_natCast, Int.toNat_natCast] at z
    exact z
end
end Pg
namespace Pg
open PySem PySem.Spec PyProof.Rows L2
/-! ### what the top has written -/
theorem all_mk {P : Program} {w : World} {K : PySem.W.Frag} {h : Heap} {mg : Str → Option Value} {fa f1 f2 f3 f4 f5 f6 f7 f8 f9 f10 f11 f12 : Addr} (X : K.In h) (G : h.Ns mainGlobals mg) (hfa : mg "st_straight" = some (.ref fa))
    {od1 od2 od3 od4 od5 od6 od7 od8 od9 od10 od11 od12 an1 an2 an3 an4 an5 an6 an7 an8 an9 an10 an11 an12 : Option Addr} {sl1 sl2 sl3 sl4 sl5 sl6 sl7 sl8 sl9 sl10 sl11 sl12 : Array (Option Value)} {oc1 oc2 oc3 oc4 oc5 oc6 oc7 oc8 oc9 oc10 oc11 oc12 kV1 kV2 kV3 kV4 kV5 kV6 kV7 kV8 kV9 kV10 kV11 kV12 dc1 dc2 dc3 dc4 dc5 dc6 dc7 dc8 dc9 dc10 dc11 dc12 pm1 pm2 pm3 pm4 pm5 pm6 pm7 pm8 pm9 pm10 pm11 pm12 cd1 cd2 cd3 cd4 cd5 cd6 cd7 cd8 cd9 cd10 cd11 cd12 ct1 ct2 ct3 ct4 ct5 ct6 ct7 ct8 ct9 ct10 ct11 ct12 : Value} {t3 t4 t5 t6 t7 t8 : Tok}
    (a1 : PySem.W.nsIn K mainGlobals "sharp" = some (some (.ref f1))) (l1 : K.lookup f1 = some ⟨oc1, od1, .func (PySem.W.fnOf "sharp" "sharp" (defArgs sSharp) (defBody sSharp) (defScope sSharp) .none kV1 dc1 pm1 an1 cd1 ct1), sl1⟩) (c1 : PySem.W.codeIn K cd1 "sharp" = true) (k1 : PySem.W.keepIn K (.ref f1) = true)
    (a2 : PySem.W.nsIn K mainGlobals "words_of" = some (some (.ref f2))) (l2 : K.lookup f2 = some ⟨oc2, od2, .func (PySem.W.fnOf "words_of" "words_of" (defArgs sWordsOf) (defBody sWordsOf) (defScope sWordsOf) .none kV2 dc2 pm2 an2 cd2 ct2), sl2⟩) (c2 : PySem.W.codeIn K cd2 "words_of" = true) (k2 : PySem.W.keepIn K (.ref f2) = true)
    (a3 : PySem.W.nsIn K mainGlobals "is_size" = some (some (.ref f3))) (l3 : K.lookup f3 = some ⟨oc3, od3, .func (PySem.W.fnOf "is_size" "is_size" (defArgs sIsSize) (defBody sIsSize) (defScope sIsSize) .none kV3 dc3 pm3 an3 cd3 ct3), sl3⟩) (c3 : PySem.W.codeIn K cd3 "is_size" = true) (k3 : PySem.W.keepIn K (.ref f3) = true)
    (a4 : PySem.W.nsIn K mainGlobals "row_from" = some (some (.ref f4))) (l4 : K.lookup f4 = some ⟨oc4, od4, .func (PySem.W.fnOf "row_from" "row_from" (defArgs sRowFrom) (defBody sRowFrom) (defScope sRowFrom) .none kV4 dc4 pm4 an4 cd4 ct4), sl4⟩) (c4 : PySem.W.codeIn K cd4 "row_from" = true) (k4 : PySem.W.keepIn K (.ref f4) = true)
    (a5 : PySem.W.nsIn K mainGlobals "page_from" = some (some (.ref f5))) (l5 : K.lookup f5 = some ⟨oc5, od5, .func (PySem.W.fnOf "page_from" "page_from" (defArgs sPageFrom) (defBody sPageFrom) (defScope sPageFrom) .none kV5 dc5 pm5 an5 cd5 ct5), sl5⟩) (c5 : PySem.W.codeIn K cd5 "page_from" = true) (k5 : PySem.W.keepIn K (.ref f5) = true)
    (a6 : PySem.W.nsIn K mainGlobals "as_word" = some (some (.ref f6))) (l6 : K.lookup f6 = some ⟨oc6, od6, .func (PySem.W.fnOf "as_word" "as_word" (defArgs sAsWord) (defBody sAsWord) (defScope sAsWord) .none kV6 dc6 pm6 an6 cd6 ct6), sl6⟩) (c6 : PySem.W.codeIn K cd6 "as_word" = true) (k6 : PySem.W.keepIn K (.ref f6) = true)
    (a7 : PySem.W.nsIn K mainGlobals "shear" = some (some (.ref f7))) (l7 : K.lookup f7 = some ⟨oc7, od7, .func (PySem.W.fnOf "shear" "shear" (defArgs sShear) (defBody sShear) (defScope sShear) .none kV7 dc7 pm7 an7 cd7 ct7), sl7⟩) (c7 : PySem.W.codeIn K cd7 "shear" = true) (k7 : PySem.W.keepIn K (.ref f7) = true)
    (a8 : PySem.W.nsIn K mainGlobals "dots_of_columns" = some (some (.ref f8))) (l8 : K.lookup f8 = some ⟨oc8, od8, .func (PySem.W.fnOf "dots_of_columns" "dots_of_columns" (defArgs sDots) (defBody sDots) (defScope sDots) .none kV8 dc8 pm8 an8 cd8 ct8), sl8⟩) (c8 : PySem.W.codeIn K cd8 "dots_of_columns" = true) (k8 : PySem.W.keepIn K (.ref f8) = true)
    (a9 : PySem.W.nsIn K mainGlobals "counts_sheared" = some (some (.ref f9))) (l9 : K.lookup f9 = some ⟨oc9, od9, .func (PySem.W.fnOf "counts_sheared" "counts_sheared" (defArgs sCountsSheared) (defBody sCountsSheared) (defScope sCountsSheared) .none kV9 dc9 pm9 an9 cd9 ct9), sl9⟩) (c9 : PySem.W.codeIn K cd9 "counts_sheared" = true) (k9 : PySem.W.keepIn K (.ref f9) = true)
    (a10 : PySem.W.nsIn K mainGlobals "straight" = some (some (.ref f10))) (l10 : K.lookup f10 = some ⟨oc10, od10, .func (PySem.W.fnOf "straight" "straight" (defArgs sStraight) (defBody sStraight) (defScope sStraight) .none kV10 dc10 pm10 an10 cd10 ct10), sl10⟩) (c10 : PySem.W.codeIn K cd10 "straight" = true) (k10 : PySem.W.keepIn K (.ref f10) = true)
    (a11 : PySem.W.nsIn K mainGlobals "is_shear" = some (some (.ref f11))) (l11 : K.lookup f11 = some ⟨oc11, od11, .func (PySem.W.fnOf "is_shear" "is_shear" (defArgs sIsShear) (defBody sIsShear) (defScope sIsShear) .none kV11 dc11 pm11 an11 cd11 ct11), sl11⟩) (c11 : PySem.W.codeIn K cd11 "is_shear" = true) (k11 : PySem.W.keepIn K (.ref f11) = true)
    (a12 : PySem.W.nsIn K mainGlobals "st_straight" = some (some (.ref f12))) (l12 : K.lookup f12 = some ⟨oc12, od12, .func (PySem.W.fnOf "st_straight" "st_straight" (defArgs sStStraight) (defBody sStStraight) (defScope sStStraight) .none kV12 dc12 pm12 an12 cd12 ct12), sl12⟩) (c12 : PySem.W.codeIn K cd12 "st_straight" = true) (k12 : PySem.W.keepIn K (.ref f12) = true)
    (g1 : PySem.W.nsIn K mainGlobals "range" = some none)
    (g2 : PySem.W.nsIn K mainGlobals "len" = some none)
    (g3 : PySem.W.nsIn K mainGlobals "WORD" = some (some (.int (32) t3)))
    (g4 : PySem.W.nsIn K mainGlobals "MOST_SIDE" = some (some (.int (256) t4)))
    (g5 : PySem.W.nsIn K mainGlobals "WORDS" = some (some (.int (4294967296) t5)))
    (g6 : PySem.W.nsIn K mainGlobals "MOST_SHEAR" = some (some (.int (4096) t6)))
    (g7 : PySem.W.nsIn K mainGlobals "MOST_TRIED" = some (some (.int (64) t7)))
    (g8 : PySem.W.nsIn K mainGlobals "BAD" = some (some (.int (-2) t8)))
    : ∃ fd : FuncData, (∀ (s : Shared) (us : List Value), us.length = (["m", "d", "w", "h", "x"] : List Str).length → BindsTo s fd ⟨us, []⟩ ((["m", "d", "w", "h", "x"] : List Str).zip us)) ∧ ∀ base : Heap, K.In base → base.Ns mainGlobals mg → FnOk P w K mg base CX0 4 fa fd ["m", "d", "w", "h", "x"] (spStStraight K) := by
  have e := hfa.symm.trans (PySem.W.mg_of X G a12)
  cases e
  have F1 := fun_mk (st := sSharp) l1 c1 k1
  have F2 := fun_mk (st := sWordsOf) l2 c2 k2
  have F3 := fun_mk (st := sIsSize) l3 c3 k3
  have F4 := fun_mk (st := sRowFrom) l4 c4 k4
  have F5 := fun_mk (st := sPageFrom) l5 c5 k5
  have F6 := fun_mk (st := sAsWord) l6 c6 k6
  have F7 := fun_mk (st := sShear) l7 c7 k7
  have F8 := fun_mk (st := sDots) l8 c8 k8
  have F9 := fun_mk (st := sCountsSheared) l9 c9 k9
  have F10 := fun_mk (st := sStraight) l10 c10 k10
  have F11 := fun_mk (st := sIsShear) l11 c11 k11
  have F12 := fun_mk (st := sStStraight) l12 c12 k12
  refine ⟨PySem.W.fnOf "st_straight" "st_straight" (defArgs sStStraight) (defBody sStStraight) (defScope sStStraight) .none kV12 dc12 pm12 an12 cd12 ct12, fun s us hu => match us, hu with | [_, _, _, _, _], _ => .of_eq rfl, fun base _ _ => ?_⟩
  have H1 : Has P w K mg base "sharp" 1 ["numbers"] (spSharp K) := ⟨_, _, ok_sharp F1 (PySem.W.mg_none_of X G g1) (PySem.W.mg_none_of X G g2), PySem.W.mg_of X G a1, k1, F1.binds (ps := ["numbers"]) fun _ _ _ _ _ _ us hl => match us, hl with | [_], _ => rfl⟩
  have H2 : Has P w K mg base "words_of" 1 ["many"] (spWordsOf) := ⟨_, _, ok_words_of F2 (PySem.W.mg_of X G g3), PySem.W.mg_of X G a2, k2, F2.binds (ps := ["many"]) fun _ _ _ _ _ _ us hl => match us, hl with | [_], _ => rfl⟩
  have H3 : Has P w K mg base "is_size" 1 ["wide", "high"] (spIsSize) := ⟨_, _, ok_is_size F3 (PySem.W.mg_of X G g4), PySem.W.mg_of X G a3, k3, F3.binds (ps := ["wide", "high"]) fun _ _ _ _ _ _ us hl => match us, hl with | [_, _], _ => rfl⟩
  have H4 : Has P w K mg base "row_from" 1 ["words", "wide"] (spRowFrom K) := ⟨_, _, ok_row_from F4 (PySem.W.mg_of X G g3) (PySem.W.mg_none_of X G g1), PySem.W.mg_of X G a4, k4, F4.binds (ps := ["words", "wide"]) fun _ _ _ _ _ _ us hl => match us, hl with | [_, _], _ => rfl⟩
  have H5 : Has P w K mg base "page_from" 2 ["words", "wide", "high"] (spPageFrom K) := ⟨_, _, ok_page_from F5 H2 H4 (PySem.W.mg_none_of X G g1), PySem.W.mg_of X G a5, k5, F5.binds (ps := ["words", "wide", "high"]) fun _ _ _ _ _ _ us hl => match us, hl with | [_, _, _], _ => rfl⟩
  have H6 : Has P w K mg base "as_word" 1 ["number"] (spAsWord) := ⟨_, _, ok_as_word F6 (PySem.W.mg_of X G g5), PySem.W.mg_of X G a6, k6, F6.binds (ps := ["number"]) fun _ _ _ _ _ _ us hl => match us, hl with | [_], _ => rfl⟩
  have H7 : Has P w K mg base "shear" 1 ["k", "d", "at", "many"] (spShear) := ⟨_, _, ok_shear F7, PySem.W.mg_of X G a7, k7, F7.binds (ps := ["k", "d", "at", "many"]) fun _ _ _ _ _ _ us hl => match us, hl with | [_, _, _, _], _ => rfl⟩
  have H8 : Has P w K mg base "dots_of_columns" 1 ["page"] (spDots K) := ⟨_, _, ok_dots_of_columns F8 (PySem.W.mg_none_of X G g1) (PySem.W.mg_none_of X G g2), PySem.W.mg_of X G a8, k8, F8.binds (ps := ["page"]) fun _ _ _ _ _ _ us hl => match us, hl with | [_], _ => rfl⟩
  have H9 : Has P w K mg base "counts_sheared" 2 ["columns", "high", "k", "d"] (spCountsSheared K) := ⟨_, _, ok_counts_sheared F9 H7 (PySem.W.mg_none_of X G g1) (PySem.W.mg_none_of X G g2), PySem.W.mg_of X G a9, k9, F9.binds (ps := ["columns", "high", "k", "d"]) fun _ _ _ _ _ _ us hl => match us, hl with | [_, _, _, _], _ => rfl⟩
  have H10 : Has P w K mg base "straight" 3 ["page", "most", "d"] (spStraight K) := ⟨_, _, ok_straight F10 H8 H1 H9 (PySem.W.mg_none_of X G g1) (PySem.W.mg_none_of X G g2), PySem.W.mg_of X G a10, k10, F10.binds (ps := ["page", "most", "d"]) fun _ _ _ _ _ _ us hl => match us, hl with | [_, _, _], _ => rfl⟩
  have H11 : Has P w K mg base "is_shear" 2 ["k", "d", "w", "h"] (spIsShear) := ⟨_, _, ok_is_shear F11 H3 (PySem.W.mg_of X G g6), PySem.W.mg_of X G a11, k11, F11.binds (ps := ["k", "d", "w", "h"]) fun _ _ _ _ _ _ us hl => match us, hl with | [_, _, _, _], _ => rfl⟩
  exact ok_st_straight F12 H11 H10 H5 H6 (PySem.W.mg_of X G g7) (PySem.W.mg_of X G g8)
end Pg
open PySem PySem.W PyProof.Rows
set_option maxRecDepth 100000 in
set_option maxHeartbeats 0 in
theorem PySem.Challenge.cw_pagestraight_s05_st_straight_holds : PySem.Challenge.rw_pagestraight_s05_st_straight.Holds := by
  w_on; k_headS; (case hw => exact ⟨[.int 0, .int 0, .int 0, .int 0, .list []], by decide +kernel, by decide +kernel⟩)
  k_fillS
  refine L2.walk_specK (r := PySem.Challenge.rw_pagestraight_s05_st_straight) (k := 4) (CX := L2.CX0) (ps := ["m", "d", "w", "h", "x"]) (sp := fun K => Pg.spStStraight K) (by decide +kernel) rfl rfl ⟨rfl, by decide, by decide⟩ (fun w h Y => PySem.W.kIn_of Y) ?F ?S (fun _ _ _ _ z => z)
  case F =>
    intro w mg fa h Y KX G hmg
    refine' Pg.all_mk KX G hmg ?a1 ?l1 ?c1 ?k1 ?a2 ?l2 ?c2 ?k2 ?a3 ?l3 ?c3 ?k3 ?a4 ?l4 ?c4 ?k4 ?a5 ?l5 ?c5 ?k5 ?a6 ?l6 ?c6 ?k6 ?a7 ?l7 ?c7 ?k7 ?a8 ?l8 ?c8 ?k8 ?a9 ?l9 ?c9 ?k9 ?a10 ?l10 ?c10 ?k10 ?a11 ?l11 ?c11 ?k11 ?a12 ?l12 ?c12 ?k12 ?g1 ?g2 ?g3 ?g4 ?g5 ?g6 ?g7 ?g8
    (case a1 => k_is)
    (case l1 => k_is)
    (case c1 => k_is)
    (case k1 => k_is)
    (case a2 => k_is)
    (case l2 => k_is)
    (case c2 => k_is)
    (case k2 => k_is)
    (case a3 => k_is)
    (case l3 => k_is)
    (case c3 => k_is)
    (case k3 => k_is)
    (case a4 => k_is)
    (case l4 => k_is)
    (case c4 => k_is)
    (case k4 => k_is)
    (case a5 => k_is)
    (case l5 => k_is)
    (case c5 => k_is)
    (case k5 => k_is)
    (case a6 => k_is)
    (case l6 => k_is)
    (case c6 => k_is)
    (case k6 => k_is)
    (case a7 => k_is)
    (case l7 => k_is)
    (case c7 => k_is)
    (case k7 => k_is)
    (case a8 => k_is)
    (case l8 => k_is)
    (case c8 => k_is)
    (case k8 => k_is)
    (case a9 => k_is)
    (case l9 => k_is)
    (case c9 => k_is)
    (case k9 => k_is)
    (case a10 => k_is)
    (case l10 => k_is)
    (case c10 => k_is)
    (case k10 => k_is)
    (case a11 => k_is)
    (case l11 => k_is)
    (case c11 => k_is)
    (case k11 => k_is)
    (case a12 => k_is)
    (case l12 => k_is)
    (case c12 => k_is)
    (case k12 => k_is)
    (case g1 => k_is)
    (case g2 => k_is)
    (case g3 => k_is)
    (case g4 => k_is)
    (case g5 => k_is)
    (case g6 => k_is)
    (case g7 => k_is)
    (case g8 => k_is)
  case S =>
    intro K H xs a hO hwi hask hx
    obtain ⟨x1, x2, x3, x4, x5, u⟩ := a
    exact Pg.end_straight hwi hask hx
#print axioms PySem.Challenge.cw_pagestraight_s05_st_straight_holds
