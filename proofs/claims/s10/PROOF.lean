import PyProof.Rows.All
import Wide.All
import OpenK.AllK
import Wide.FinOn
import Open.SpecLaws
import KE.OsHead
import KE.OsGo
import HandS.ForSpec
import HandS.Comp
import HandS.Iter
import HandS.Style
import HandS.Wide
import PySem.Challenge.RW_pagestraight_s10_st_smooth
set_option Elab.async false
set_option linter.all false
set_option maxRecDepth 100000
set_option maxHeartbeats 2000000
namespace Pg
/-! ### plain laws of rows of numbers -/
theorem take_snoc {α : Type} {l : List α} {i : Nat} {x : α} (h : l[i]? = some x) : l.take (i + 1) = l.take i ++ [x] := by
  rw [List.take_add_one, h]
  rfl
/-- of the first so many neighbours the squares of how far they are apart -/
def sq (ns : List Nat) : Nat → Int
  | 0 => 0
  | i + 1 => sq ns i + ((ns.getD (i + 1) 0 : Nat) - (ns.getD i 0 : Nat) : Int) * ((ns.getD (i + 1) 0 : Nat) - (ns.getD i 0 : Nat) : Int)
theorem sq_apart (a b : Nat) : (((max a b - min a b) * (max a b - min a b) : Nat) : Int) = ((b : Int) - (a : Int)) * ((b : Int) - (a : Int)) := by
  rcases Nat.le_total a b with h | h
  · rw [Nat.max_eq_right h, Nat.min_eq_left h, Int.natCast_mul, Int.natCast_sub h]
  · rw [Nat.max_eq_left h, Nat.min_eq_right h, Int.natCast_mul, Int.natCast_sub h]
    rw [← Int.neg_sub (a : Int) (b : Int), Int.neg_mul_neg]
theorem sq_take (ns : List Nat) : ∀ i, i ≤ ns.length - 1 → ((((ns.zip (ns.drop 1)).take i).map fun p => (max p.1 p.2 - min p.1 p.2) * (max p.1 p.2 - min p.1 p.2)).sum : Nat) = sq ns i
  | 0, _ => by simp [sq]
  | i + 1, h => by
    have h1 : i < ns.length := by omega
    have h2 : i + 1 < ns.length := by omega
    have e : (ns.zip (ns.drop 1))[i]? = some (ns[i], ns[i + 1]) := by
      rw [List.getElem?_zip_eq_some]
      refine ⟨List.getElem?_eq_getElem h1, ?_⟩
      rw [List.getElem?_drop, Nat.add_comm 1 i]
      exact List.getElem?_eq_getElem h2
    rw [take_snoc e, List.map_append, List.sum_append, Int.natCast_add, sq_take ns i (by omega)]
    have z : (([(ns[i], ns[i + 1])].map fun p : Nat × Nat => (max p.1 p.2 - min p.1 p.2) * (max p.1 p.2 - min p.1 p.2)).sum : Nat) = (max ns[i] ns[i + 1] - min ns[i] ns[i + 1]) * (max ns[i] ns[i + 1] - min ns[i] ns[i + 1]) := by simp
    rw [z, sq_apart]
    show _ = sq ns i + _
    simp [List.getD_eq_getElem?_getD, h1, h2]
theorem sharp_is (ns : List Nat) : (Sh57.sharp ns : Int) = sq ns (ns.length - 1) := by
  rw [← sq_take ns (ns.length - 1) (Nat.le_refl _)]
  unfold Sh57.sharp
  rw [List.take_of_length_le (by rw [List.length_zip, List.length_drop]; omega)]

/-! ### pieces of a row of truths -/
/-- the pieces from place i on, s: where the open one begins -/
def pc : List Bool → Nat → Option Nat → List (Nat × Nat)
  | [], _, none => []
  | [], i, some s => [(s, i - s)]
  | true :: r, i, none => pc r (i + 1) (some i)
  | true :: r, i, some s => pc r (i + 1) (some s)
  | false :: r, i, none => pc r (i + 1) none
  | false :: r, i, some s => (s, i - s) :: pc r (i + 1) none
def gapF (most : Nat) (g : List (Nat × Nat)) (a : Nat × Nat) : List (Nat × Nat) := if most < a.1 then g else match g with
  | [] => [(a.2, 1)]
  | p :: q => if p.1 + p.2 = a.2 then (p.1, p.2 + 1) :: q else (a.2, 1) :: g
theorem gap_fold (most : Nat) : ∀ (l : List Nat) (i : Nat) (g : List (Nat × Nat)),
    ((∀ p q, g = p :: q → p.1 + p.2 < i) → ((l.zipIdx i).foldl (gapF most) g).reverse = g.reverse ++ pc (l.map fun n => decide (n ≤ most)) i none) ∧
    (∀ s q, g = (s, i - s) :: q → s < i → ((l.zipIdx i).foldl (gapF most) g).reverse = q.reverse ++ pc (l.map fun n => decide (n ≤ most)) i (some s))
  | [], i, g => by
    refine ⟨fun _ => by simp [pc], fun s q e _ => ?_⟩
    subst e
    simp [pc]
  | x :: l, i, g => by
    have ih := gap_fold most l (i + 1)
    refine ⟨fun h => ?_, fun s q e hs => ?_⟩
    · rw [List.zipIdx_cons, List.foldl_cons]
      by_cases hx : most < x
      · have e1 : gapF most g (x, i) = g := if_pos hx
        rw [e1, List.map_cons, decide_eq_false (by omega : ¬ x ≤ most)]
        exact (ih g).1 fun p q e => Nat.lt_succ_of_lt (h p q e)
      · have e1 : gapF most g (x, i) = (i, 1) :: g := by
          unfold gapF
          rw [if_neg hx]
          cases g with
          | nil => rfl
          | cons p q =>
            have z := h p q rfl
            exact if_neg (show ¬ p.1 + p.2 = i by omega)
        rw [e1, List.map_cons, decide_eq_true (by omega : x ≤ most)]
        exact (ih ((i, 1) :: g)).2 i g (by rw [Nat.add_sub_cancel_left]) (Nat.lt_succ_self _)
    · subst e
      rw [List.zipIdx_cons, List.foldl_cons]
      by_cases hx : most < x
      · have e1 : gapF most ((s, i - s) :: q) (x, i) = (s, i - s) :: q := if_pos hx
        rw [e1, List.map_cons, decide_eq_false (by omega : ¬ x ≤ most)]
        have z := (ih ((s, i - s) :: q)).1 fun p q e => by
          cases e
          show s + (i - s) < i + 1
          omega
        rw [z]
        simp [pc]
      · have e1 : gapF most ((s, i - s) :: q) (x, i) = (s, i + 1 - s) :: q := by
          unfold gapF
          rw [if_neg hx]
          show (if s + (i - s) = i then (s, i - s + 1) :: q else (i, 1) :: (s, i - s) :: q) = _
          rw [if_pos (by omega), show i - s + 1 = i + 1 - s by omega]
        rw [e1, List.map_cons, decide_eq_true (by omega : x ≤ most)]
        exact (ih ((s, i + 1 - s) :: q)).2 s q rfl (by omega)
theorem gaps_is (most : Nat) (l : List Nat) : Sh57.gaps most l = pc (l.map fun n => decide (n ≤ most)) 0 none :=
  ((gap_fold most l 0 []).1 fun p q e => nomatch e).trans (by simp)
theorem pc_end (i s : Nat) : pc [] i (some s) = [(s, i - s)] := rfl
/-- pieces that lie apart, from b on, up to n -/
def Sep (n : Nat) : Nat → List (Nat × Nat) → Prop
  | _, [] => True
  | b, c :: r => b ≤ c.1 ∧ 1 ≤ c.2 ∧ c.1 + c.2 ≤ n ∧ Sep n (c.1 + c.2) r
theorem Sep.weak {n : Nat} : ∀ {C : List (Nat × Nat)} {b b' : Nat}, Sep n b C → b' ≤ b → Sep n b' C
  | [], _, _, _, _ => trivial
  | _ :: _, _, _, h, hb => ⟨Nat.le_trans hb h.1, h.2⟩
theorem Sep.filter {n : Nat} (p : Nat × Nat → Bool) : ∀ {C : List (Nat × Nat)} {b : Nat}, Sep n b C → Sep n b (C.filter p)
  | [], _, _ => trivial
  | c :: r, b, h => by
    have ih := Sep.filter p h.2.2.2
    rw [List.filter_cons]
    by_cases hp : p c = true
    · rw [if_pos hp]
      exact ⟨h.1, h.2.1, h.2.2.1, ih⟩
    · rw [if_neg hp]
      exact ih.weak (by have := h.1; omega)
theorem pc_sep : ∀ (m : List Bool) (i n : Nat), i + m.length = n → Sep n i (pc m i none) ∧ ∀ s, s < i → Sep n s (pc m i (some s))
  | [], i, n, h => ⟨trivial, fun s hs => ⟨Nat.le_refl _, by show 1 ≤ i - s; omega, by have h : i + 0 = n := h; show s + (i - s) ≤ n; omega, trivial⟩⟩
  | true :: r, i, n, h => by
    have h : i + (r.length + 1) = n := h
    have ih := pc_sep r (i + 1) n (by omega)
    exact ⟨ih.2 i (Nat.lt_succ_self _), fun s hs => ih.2 s (by omega)⟩
  | false :: r, i, n, h => by
    have h : i + (r.length + 1) = n := h
    have ih := pc_sep r (i + 1) n (by omega)
    refine ⟨ih.1.weak (Nat.le_succ _), fun s hs => ⟨Nat.le_refl _, by show 1 ≤ i - s; omega, by show s + (i - s) ≤ n; omega, ?_⟩⟩
    show Sep n (s + (i - s)) (pc r (i + 1) none)
    exact ih.1.weak (by omega)
theorem gaps_sep (most : Nat) (l : List Nat) : Sep l.length 0 (Sh57.gaps most l) := by
  rw [gaps_is]
  exact (pc_sep _ 0 l.length (by simp)).1
/-- what lies between the pieces -/
def between (n : Nat) : Nat → List (Nat × Nat) → List (Nat × Nat)
  | b, [] => if b < n then [(b, n - b)] else []
  | b, c :: r => (if b < c.1 then [(b, c.1 - b)] else []) ++ between n (c.1 + c.2) r
theorem bands_is (n : Nat) : ∀ (C : List (Nat × Nat)) (b : Nat),
    ((((b :: C.map fun g => g.1 + g.2).zip ((C.map fun g => g.1) ++ [n])).filter fun p => decide (p.1 < p.2)).map fun p => (p.1, p.2 - p.1)) = between n b C
  | [], b => by
    by_cases h : b < n <;> simp [between, h]
  | c :: r, b => by
    have ih := bands_is n r (c.1 + c.2)
    unfold between
    rw [← ih]
    by_cases h : b < c.1 <;> simp [h]
/-- place i is in none of the pieces -/
def outside (C : List (Nat × Nat)) (i : Nat) : Bool := !(C.any fun c => decide (c.1 ≤ i) && decide (i < c.1 + c.2))
theorem pc_trues (r : List Bool) : ∀ (k i : Nat) (s : Nat), pc (List.replicate k true ++ r) i (some s) = pc r (i + k) (some s)
  | 0, i, s => rfl
  | k + 1, i, s => by
    rw [List.replicate_succ, List.cons_append]
    show pc (List.replicate k true ++ r) (i + 1) (some s) = _
    rw [pc_trues r k (i + 1) s, Nat.add_assoc, Nat.add_comm 1 k]
theorem pc_trues0 (r : List Bool) (k i : Nat) (h : 0 < k) : pc (List.replicate k true ++ r) i none = pc r (i + k) (some i) := by
  obtain ⟨j, rfl⟩ : ∃ j, k = j + 1 := ⟨k - 1, by omega⟩
  rw [List.replicate_succ, List.cons_append]
  show pc (List.replicate j true ++ r) (i + 1) (some i) = _
  rw [pc_trues, Nat.add_assoc, Nat.add_comm 1 j]
theorem pc_falses (r : List Bool) : ∀ (k i : Nat), pc (List.replicate k false ++ r) i none = pc r (i + k) none
  | 0, i => rfl
  | k + 1, i => by
    rw [List.replicate_succ, List.cons_append]
    show pc (List.replicate k false ++ r) (i + 1) none = _
    rw [pc_falses r k (i + 1), Nat.add_assoc, Nat.add_comm 1 k]
theorem pc_falses0 (r : List Bool) (k i s : Nat) (h : 0 < k) : pc (List.replicate k false ++ r) i (some s) = (s, i - s) :: pc r (i + k) none := by
  obtain ⟨j, rfl⟩ : ∃ j, k = j + 1 := ⟨k - 1, by omega⟩
  rw [List.replicate_succ, List.cons_append]
  show (s, i - s) :: pc (List.replicate j false ++ r) (i + 1) none = _
  rw [pc_falses, Nat.add_assoc, Nat.add_comm 1 j]
theorem map_rep {f : Nat → Bool} {v : Bool} (b k : Nat) (h : ∀ i, b ≤ i → i < b + k → f i = v) : (List.range' b k).map f = List.replicate k v := by
  rw [List.map_congr_left (g := fun _ => v), List.map_const', List.length_range']
  intro i hi
  obtain ⟨j, hj, rfl⟩ := List.mem_range'.mp hi
  exact h _ (by omega) (by omega)
theorem outside_nil (i : Nat) : outside [] i = true := rfl
theorem outside_cons (c : Nat × Nat) (C : List (Nat × Nat)) (i : Nat) : outside (c :: C) i = (!(decide (c.1 ≤ i) && decide (i < c.1 + c.2)) && outside C i) := by
  unfold outside
  rw [List.any_cons, Bool.not_or]
theorem outside_before {n : Nat} : ∀ {C : List (Nat × Nat)} {b : Nat}, Sep n b C → ∀ i, i < b → outside C i = true
  | [], _, _, _, _ => rfl
  | c :: r, b, h, i, hi => by
    have h1 : b ≤ c.1 := h.1
    rw [outside_cons, outside_before h.2.2.2 i (by omega), decide_eq_false (by omega : ¬ c.1 ≤ i)]
    rfl
theorem pc_outside (n : Nat) : ∀ (C : List (Nat × Nat)) (b : Nat), Sep n b C → b ≤ n → ∀ f : Nat → Bool, (∀ i, b ≤ i → f i = outside C i) → pc ((List.range' b (n - b)).map f) b none = between n b C
  | [], b, _, hb, f, hf => by
    rw [map_rep (v := true) b (n - b) fun i hi _ => hf i hi]
    unfold between
    by_cases h : b < n
    · rw [if_pos h]
      have z := pc_trues0 [] (n - b) b (by omega)
      rw [List.append_nil] at z
      rw [z, show b + (n - b) = n by omega]
      rfl
    · rw [if_neg h, show n - b = 0 by omega]
      rfl
  | c :: r, b, h, hb, f, hf => by
    obtain ⟨h1, h2, h3, h4⟩ := h
    have ih := pc_outside n r (c.1 + c.2) h4 h3 f fun i hi => by
      rw [hf i (by omega), outside_cons, decide_eq_false (by omega : ¬ i < c.1 + c.2), Bool.and_false]
      rfl
    have s1 : List.range' b (n - b) = List.range' b (c.1 - b) ++ (List.range' c.1 c.2 ++ List.range' (c.1 + c.2) (n - (c.1 + c.2))) := by
      rw [List.range'_append_1, show c.2 + (n - (c.1 + c.2)) = n - c.1 by omega]
      have z := List.range'_append_1 (s := b) (m := c.1 - b) (n := n - c.1)
      rw [show b + (c.1 - b) = c.1 by omega] at z
      rw [z, show c.1 - b + (n - c.1) = n - b by omega]
    rw [s1, List.map_append, List.map_append, map_rep (v := true) b (c.1 - b) fun i hi hi2 => ?_, map_rep (v := false) c.1 c.2 fun i hi hi2 => ?_]
    · unfold between
      by_cases hl : b < c.1
      · rw [if_pos hl, pc_trues0 _ _ _ (by omega), pc_falses0 _ _ _ _ (by omega), show b + (c.1 - b) = c.1 by omega, ih]
        rfl
      · rw [if_neg hl, show c.1 - b = 0 by omega]
        have hc : c.1 = b := by omega
        show pc (List.replicate c.2 false ++ _) b none = _
        rw [pc_falses, ← hc, ih]
        rfl
    · rw [hf i (by omega), outside_cons, decide_eq_true (by omega : c.1 ≤ i), decide_eq_true (by omega : i < c.1 + c.2)]
      rfl
    · rw [hf i hi, outside_cons, decide_eq_false (by omega : ¬ c.1 ≤ i), outside_before h4 i (by omega)]
      rfl
theorem bands_pc (most least : Nat) (l : List Nat) : Sh57.bands most least l = pc ((List.range l.length).map (outside ((Sh57.gaps most l).filter fun g => decide (least ≤ g.2)))) 0 none := by
  rw [List.range_eq_range', show l.length = l.length - 0 from rfl, pc_outside l.length ((Sh57.gaps most l).filter fun g => decide (least ≤ g.2)) 0 ((gaps_sep most l).filter _) (Nat.zero_le _) _ (fun i _ => rfl)]
  exact bands_is l.length _ 0
end Pg
namespace Pg
/-! ### smoothed rows, hills, margins -/
/-- the sum of the first so many -/
def pre (l : List Nat) (i : Nat) : Nat := (l.take i).sum
theorem pre_succ {l : List Nat} {i : Nat} (h : i < l.length) : pre l (i + 1) = pre l i + l.getD i 0 := by
  unfold pre
  rw [take_snoc (List.getElem?_eq_getElem h), List.sum_append]
  simp [h]
theorem pre_over {l : List Nat} {i : Nat} (h : l.length ≤ i) : pre l i = pre l l.length := by
  unfold pre
  rw [List.take_of_length_le h, List.take_length]
theorem pre_min (l : List Nat) (i : Nat) : pre l i = pre l (min l.length i) := by
  rcases Nat.le_total l.length i with h | h
  · rw [pre_over h, Nat.min_eq_left h]
  · rw [Nat.min_eq_right h]
theorem pre_mid (l : List Nat) {a m : Nat} (h : a ≤ m) : ((l.take m).drop a).sum + pre l a = pre l m := by
  unfold pre
  have e := congrArg List.sum (List.take_append_drop a (l.take m))
  rw [List.sum_append, List.take_take, Nat.min_eq_left h] at e
  omega
theorem pre_mono (l : List Nat) {a m : Nat} (h : a ≤ m) : pre l a ≤ pre l m := by
  have := pre_mid l h
  omega
/-- one smoothed number -/
def smo (d : Nat) (l : List Nat) (i : Nat) : Nat := (pre l (min l.length (i + d + 1)) - pre l (i - d)) / (min l.length (i + d + 1) - (i - d))
theorem smoothed_is (d : Nat) (l : List Nat) : Sh57.smoothed d l = (List.range l.length).map (smo d l) := by
  unfold Sh57.smoothed
  refine List.map_congr_left fun i hi => ?_
  have hi : i < l.length := List.mem_range.mp hi
  show ((l.take (i + d + 1)).drop (i - d)).sum / ((l.take (i + d + 1)).drop (i - d)).length = _
  unfold smo
  have e := pre_mid l (a := i - d) (m := i + d + 1) (by omega)
  rw [← pre_min l (i + d + 1), List.length_drop, List.length_take, Nat.min_comm]
  congr 1
  omega
theorem smo_int (d : Nat) (l : List Nat) {i : Nat} (_hi : i < l.length) : ((smo d l i : Nat) : Int) = ((pre l (min l.length (i + d + 1)) : Int) - (pre l (i - d) : Int)) / (((min l.length (i + d + 1) : Nat) : Int) - ((i - d : Nat) : Int)) := by
  unfold smo
  rw [Int.natCast_ediv, Int.natCast_sub (pre_mono l (by omega)), Int.natCast_sub (by omega)]

def hillAt (l : List Nat) (i : Nat) : Bool := decide ((if i = 0 then 0 else l.getD (i - 1) 0) < l.getD i 0) && decide (l.getD (i + 1) 0 ≤ l.getD i 0)
theorem hills_is (l : List Nat) : Sh57.hills l = (List.range l.length).filter (hillAt l) := rfl
theorem filter_range_succ (p : Nat → Bool) (i : Nat) : (List.range (i + 1)).filter p = (List.range i).filter p ++ if p i = true then [i] else [] := by
  rw [List.range_succ, List.filter_append]
  by_cases h : p i = true
  · rw [if_pos h, List.filter_cons, if_pos h]
    rfl
  · rw [if_neg h, List.filter_cons, if_neg h]
    rfl

theorem margin_drop {most : Nat} {l : List Nat} {i : Nat} (h : i < l.length) : Sh57.margin most (l.drop i) = if l.getD i 0 ≤ most then Sh57.margin most (l.drop (i + 1)) + 1 else 0 := by
  have e : l.getD i 0 = l[i] := by simp [h]
  rw [List.drop_eq_getElem_cons h, e]
  unfold Sh57.margin
  rw [List.takeWhile_cons]
  by_cases hx : l[i] ≤ most <;> simp [hx]
theorem margin_nil (most : Nat) (l : List Nat) : Sh57.margin most (l.drop l.length) = 0 := by
  rw [List.drop_length]
  rfl
end Pg
namespace Pg
/-! ### what is due, call by call: rows of numbers -/
theorem nats_cast (ns : List Nat) : Sh57Neutral.nats (ns.map fun n => ((n : Nat) : Int)) = ns := by
  unfold Sh57Neutral.nats
  rw [List.map_map]
  conv => rhs; rw [← List.map_id ns]
  exact List.map_congr_left fun n _ => Int.toNat_natCast n
theorem few_iff {n : Nat} : Sh57.few n = true ↔ n ≤ 4096 := by
  unfold Sh57.few
  exact decide_eq_true_iff
theorem told_bad : Sh57Neutral.told (Sh57.answer .bad) = [-2] := rfl
theorem told_pieces (l : List (Nat × Nat)) : Sh57Neutral.told (Sh57.told l) = (l.length : Int) :: ((l.length : Int) :: l.map fun p => ((p.1 : Nat) : Int)) ++ ((l.length : Int) :: l.map fun p => ((p.2 : Nat) : Int)) := by
  show (l.length : Int) :: (((l.map fun p => p.1).length : Int) :: (l.map fun p => p.1).map (fun (x : Nat) => (x : Int)) ++ (((l.map fun p => p.2).length : Int) :: (l.map fun p => p.2).map (fun (x : Nat) => (x : Int)) ++ [])) = _
  rw [List.length_map, List.length_map, List.map_map, List.map_map, List.append_nil]
  rfl
theorem st_sharp_is (ns : List Nat) : PySh57.st_sharp (ns.map fun n => ((n : Nat) : Int)) = if ns.length ≤ 4096 then [0, ((Sh57.sharp ns : Nat) : Int)] else [-2] := by
  show Sh57Neutral.told (Sh57.answer (if Sh57.few (Sh57Neutral.nats _).length = true then _ else _)) = _
  rw [nats_cast]
  by_cases h : ns.length ≤ 4096
  · rw [if_pos (few_iff.mpr h), if_pos h]
    rfl
  · rw [if_neg fun z => h (few_iff.mp z), if_neg h]
    rfl
theorem st_gaps_is (most : Nat) (ns : List Nat) : PySh57.st_gaps (most : Int) (ns.map fun n => ((n : Nat) : Int)) = if ns.length ≤ 4096 then Sh57Neutral.told (Sh57.told (Sh57.gaps most ns)) else [-2] := by
  show Sh57Neutral.told (Sh57.answer (if Sh57.few (Sh57Neutral.nats _).length = true then _ else _)) = _
  rw [nats_cast]
  by_cases h : ns.length ≤ 4096
  · rw [if_pos (few_iff.mpr h), if_pos h]
    rfl
  · rw [if_neg fun z => h (few_iff.mp z), if_neg h]
    rfl
theorem st_bands_is (most least : Nat) (ns : List Nat) : PySh57.st_bands (most : Int) (least : Int) (ns.map fun n => ((n : Nat) : Int)) = if ns.length ≤ 4096 then Sh57Neutral.told (Sh57.told (Sh57.bands most least ns)) else [-2] := by
  show Sh57Neutral.told (Sh57.answer (if Sh57.few (Sh57Neutral.nats _).length = true then _ else _)) = _
  rw [nats_cast]
  by_cases h : ns.length ≤ 4096
  · rw [if_pos (few_iff.mpr h), if_pos h]
    rfl
  · rw [if_neg fun z => h (few_iff.mp z), if_neg h]
    rfl
theorem st_smooth_is (d : Nat) (ns : List Nat) : PySh57.st_smooth (d : Int) (ns.map fun n => ((n : Nat) : Int)) = if d ≤ 4096 ∧ ns.length ≤ 4096 then 0 :: (Sh57.smoothed d ns).map (fun n => ((n : Nat) : Int)) else [-2] := by
  show Sh57Neutral.told (Sh57.answer (if (Sh57.few (Sh57Neutral.nats _).length && decide (((d : Nat) : Int).toNat ≤ 4096)) = true then _ else _)) = _
  rw [nats_cast, Int.toNat_natCast]
  by_cases h : d ≤ 4096 ∧ ns.length ≤ 4096
  · rw [if_pos (by rw [few_iff.mpr h.2, decide_eq_true h.1]; rfl), if_pos h]
    rfl
  · rw [if_neg (fun z => h ?_), if_neg h]
    · rfl
    · rw [Bool.and_eq_true] at z
      exact ⟨of_decide_eq_true z.2, few_iff.mp z.1⟩
theorem st_hills_is (ns : List Nat) : PySh57.st_hills (ns.map fun n => ((n : Nat) : Int)) = if ns.length ≤ 4096 then ((Sh57.hills ns).length : Int) :: (Sh57.hills ns).map (fun n => ((n : Nat) : Int)) else [-2] := by
  show Sh57Neutral.told (Sh57.answer (if Sh57.few (Sh57Neutral.nats _).length = true then _ else _)) = _
  rw [nats_cast]
  by_cases h : ns.length ≤ 4096
  · rw [if_pos (few_iff.mpr h), if_pos h]
    rfl
  · rw [if_neg fun z => h (few_iff.mp z), if_neg h]
    rfl
end Pg
namespace Pg
open PySem PySem.Spec PyProof.Rows L2
/-! ### what the walks share -/
/-- a def that the text's globals name x: it keeps its promise and takes its arguments in order -/
def Has (P : Program) (w : World) (K : PySem.W.Frag) (mg : Str → Option Value) (base : Heap) (x : Str) (k : Nat) (ps : List Str) (sp : Sp) : Prop :=
  ∃ (f : Addr) (fd : FuncData), FnOk P w K mg base CX0 k f fd ps sp ∧ mg x = some (.ref f) ∧ PySem.W.keepIn K (.ref f) = true ∧ Binds K fd ps []
theorem pe_has {X : Cx} {x : Str} {k : Nat} {ps : List Str} {sp : Sp} {p pos : Pos} {e : Expr} {es : List Expr} {t : TA} (G : Has X.prog X.w X.K X.mg X.base x k ps sp) (hr : Room k X.A) (ha : PA X (e :: es) t) (hg : Gl X x := by rfl)
    (hdb : (x == ("__debug__" : Str)) = false := by decide) (he : starEach (e :: es) X.env = (false, eval e X.env) :: starEach es X.env := by rfl) (hpl : (backTo pos (starEach es X.env)).any (·.1) = false := by rfl) :
    PE X (.Call (.Name x p) (e :: es) [] pos) (tCall sp [] E0 t) := by
  obtain ⟨f, fd, F, hm, hk, hb⟩ := G
  exact pe_call F hr hg hm hk hb .nil pass0 ha hdb he hpl
/-- a whole number of the module, by its name -/
theorem pe_gi {X : Cx} {x : Str} {i : Int} {t : Tok} {pos : Pos} (hm : X.mg x = some (.int i t)) (hg : Gl X x := by rfl) (hd : (x == ("__debug__" : Str)) = false := by decide) : PE X (.Name x pos) (tC (.int i)) :=
  pe_glob (v := .int i) hg hm ⟨t, rfl⟩ hd
/-! rules whose reading names K alone: a comprehension's own context has the same -/
theorem ixK {X : Cx} {K : PySem.W.Frag} (h : X.K = K := by rfl) : IxR X (rIxL K) := h ▸ ix_list
theorem slK {X : Cx} {K : PySem.W.Frag} (h : X.K = K := by rfl) : SlR X (rSlL K) := h ▸ sl_list
theorem lenK {X : Cx} {K : PySem.W.Frag} (h : X.K = K := by rfl) : CallR X (.builtin "len") (fun xs H Q => ∃ p ys, xs = [.ref p] ∧ (SqL K H p ys ∨ SqT K H p ys) ∧ Q (.int ys.length) H) := h ▸ call_len_seq
theorem sumK {X : Cx} {K : PySem.W.Frag} (hc : X.calm = true) (h : X.K = K := by rfl) : CallR X (.builtin "sum") (rSum K) := h ▸ cr_sum hc
theorem pi_listK {X : Cx} {tg l : Expr} {tl : TE} {K : PySem.W.Frag} (hl : PE X l tl) (h : X.K = K := by rfl) : PI X tg l (iList K tl) := h ▸ pi_list hl
theorem same_upd {H : Hp} {p : Addr} {o : HO} (h : H p = none) : Same H (upd H p o) := fun b x e => by
  rw [upd_ne (ne_of_none e h)]
  exact e
/-- an object of ours, new since H, is written: what H tracked stays -/
theorem same_write {H H' : Hp} {p : Addr} {o : HO} (s : Same H H') (h : H p = none) : Same H (upd H' p o) := fun b x e => by
  rw [upd_ne (ne_of_none e h)]
  exact s b x e
theorem line_of {n : Nat} (h : n ≤ 1000000) : n < sizeLine := Nat.lt_of_le_of_lt h (by decide)
theorem line_le {n : Nat} (h : n ≤ 1000000) : n ≤ sizeLine := Nat.le_of_lt (line_of h)
theorem ix_ints {ns : List Int} {j : Nat} {z : Int} (h : ns[j]? = some z) : atI (ns.map V.int) (j : Int) = some (V.int z) := atI_nat (by rw [List.getElem?_map, h]; rfl)
/-- whole numbers from 0 on, as a list of values -/
def vN (l : List Nat) : List V := l.map fun (n : Nat) => V.int (n : Int)
theorem vN_len (l : List Nat) : (vN l).length = l.length := by simp [vN]
theorem vN_at {l : List Nat} {j : Nat} (h : j < l.length) : atI (vN l) (j : Int) = some (V.int ((l.getD j 0 : Nat) : Int)) := atI_nat (by simp [vN, h])
theorem vN_snoc (l : List Nat) (n : Nat) : vN (l ++ [n]) = vN l ++ [V.int (n : Int)] := by
  unfold vN
  rw [List.map_append]
  rfl
theorem vN_ints (l : List Nat) : vN l = (l.map fun n => ((n : Nat) : Int)).map V.int := by simp [vN]
end Pg
namespace Pg
open PySem PySem.Spec PyProof.Rows L2
open PySem.W (Codec WData)
/-! ### the arguments as they come, the answer as it goes -/
theorem nat_of {z hi : Int} (h : Codec.inInt 0 hi z = true) : ∃ n : Nat, z = (n : Int) ∧ (n : Int) ≤ hi := by
  obtain ⟨h0, h1⟩ := Codec.inInt_iff.mp h
  obtain ⟨n, rfl⟩ := Int.eq_ofNat_of_zero_le h0
  exact ⟨n, rfl, h1⟩
theorem nats_of {hi : Int} : ∀ {l : List Int}, l.all (Codec.inInt 0 hi) = true → ∃ ns : List Nat, l = ns.map (fun n => ((n : Nat) : Int)) ∧ ∀ n ∈ ns, (n : Int) ≤ hi
  | [], _ => ⟨[], rfl, fun _ h => nomatch h⟩
  | z :: r, h => by
    rw [List.all_cons, Bool.and_eq_true] at h
    obtain ⟨n, rfl, hn⟩ := nat_of h.1
    obtain ⟨ns, rfl, hs⟩ := nats_of h.2
    exact ⟨n :: ns, rfl, fun m hm => (List.mem_cons.mp hm).elim (fun e => e ▸ hn) (hs m)⟩
theorem list_of {hi : Int} {most : Nat} {l : List Int} (h : (Codec.inLen 0 most l && l.all (Codec.inInt 0 hi)) = true) : ∃ ns : List Nat, l = ns.map (fun n => ((n : Nat) : Int)) ∧ ns.length ≤ most ∧ ∀ n ∈ ns, (n : Int) ≤ hi := by
  rw [Bool.and_eq_true] at h
  obtain ⟨ns, rfl, hs⟩ := nats_of h.2
  refine ⟨ns, rfl, ?_, hs⟩
  have z := (Codec.inNat_iff.mp h.1).2
  rw [List.length_map] at z
  exact z
theorem int_dw {K : PySem.W.Frag} {H : Hp} {v : V} {z : Int} (h : Dw K H v (.int z)) : v = .int z := by
  cases h
  rfl
theorem list_dw {K : PySem.W.Frag} {H : Hp} {v : V} {l : List Int} (h : Dw K H v (.list (l.map WData.int))) : ∃ a, v = .ref a ∧ SqL K H a (l.map V.int) := by
  cases h with
  | lst hs ha =>
    have e := L2.ints_dw l _ ha
    subst e
    exact ⟨_, rfl, hs⟩
theorem dw_one_of {K : PySem.W.Frag} {H : Hp} {xs : List V} {d : WData} {ds : List WData} (h : DwAll K H xs (d :: ds)) : ∃ v vs, xs = v :: vs ∧ Dw K H v d ∧ DwAll K H vs ds := by
  cases h with
  | cons h1 h2 => exact ⟨_, _, rfl, h1, h2⟩
theorem dw_nil_of {K : PySem.W.Frag} {H : Hp} {xs : List V} (h : DwAll K H xs []) : xs = [] := by
  cases h
  rfl
/-- the answer: a list of ints stands at p -/
theorem ans_dw {K : PySem.W.Frag} {H : Hp} {p : Addr} {l : List Int} (h : H p = some (.lst (l.map V.int))) : Dw K H (.ref p) (.list (l.map WData.int)) := .lst (SqL.of h) (dw_ints _)
end Pg
namespace Pg
open PySem PySem.Spec PyProof.Rows L2
/-! ### lists in step -/
theorem at_nat {l : List Nat} {j : Nat} {z : Int} (e : z = (j : Int)) (h : j < l.length) : atI (vN l) z = some (V.int ((l.getD j 0 : Nat) : Int)) := by
  rw [e]
  exact vN_at h
theorem at_ints {l : List Int} {j : Nat} {z x : Int} (e : z = (j : Int)) (h : l[j]? = some x) : atI (l.map V.int) z = some (V.int x) := by
  rw [e]
  exact ix_ints h
theorem ixN_of {n j : Nat} {z : Int} (e : z = (j : Int)) (h : j < n) : ixN n z = some j := by
  subst e
  unfold ixN
  rw [if_pos (by omega), if_pos (by omega)]
  rfl
/-- two lists of one length, place by place -/
structure Reps {α β : Type} (R : α → β → Prop) (xs : List α) (ys : List β) : Prop where
  len : xs.length = ys.length
  get : ∀ (i : Nat) x y, xs[i]? = some x → ys[i]? = some y → R x y
section
variable {α β : Type} {R R' : α → β → Prop} {xs : List α} {ys : List β}
theorem Reps.nil : Reps R [] [] := ⟨rfl, fun i x y h => by simp at h⟩
theorem Reps.mono (r : Reps R xs ys) (h : ∀ x y, R x y → R' x y) : Reps R' xs ys := ⟨r.len, fun i x y a b => h _ _ (r.get i x y a b)⟩
theorem Reps.snoc {x : α} {y : β} (r : Reps R xs ys) (h : R x y) : Reps R (xs ++ [x]) (ys ++ [y]) := by
  refine ⟨by rw [List.length_append, List.length_append, r.len]; rfl, fun i a b ha hb => ?_⟩
  by_cases hi : i < xs.length
  · rw [List.getElem?_append_left hi] at ha
    rw [List.getElem?_append_left (by rw [← r.len]; exact hi)] at hb
    exact r.get i a b ha hb
  · have hi : xs.length ≤ i := Nat.le_of_not_lt hi
    rw [List.getElem?_append_right hi] at ha
    rw [List.getElem?_append_right (by rw [← r.len]; exact hi), ← r.len] at hb
    cases e : i - xs.length with
    | zero =>
      rw [e] at ha hb
      cases Option.some.inj ha
      cases Option.some.inj hb
      exact h
    | succ n =>
      rw [e] at ha
      simp at ha
theorem Reps.here {i : Nat} {y : β} (r : Reps R xs ys) (h : ys[i]? = some y) : ∃ x, xs[i]? = some x ∧ R x y := by
  have hi : i < ys.length := (List.getElem?_eq_some_iff.mp h).1
  have hi' : i < xs.length := by rw [r.len]; exact hi
  exact ⟨xs[i], List.getElem?_eq_getElem hi', r.get i _ _ (List.getElem?_eq_getElem hi') h⟩
end
theorem map_ref {as : List Addr} {i : Nat} {b : Addr} (h : as[i]? = some b) : (as.map V.ref)[i]? = some (V.ref b) := by rw [List.getElem?_map, h]; rfl
/-- a list of tuples of two numbers stands at o -/
structure PairsAt (H : Hp) (o : Addr) (as : List Addr) (ps : List (Nat × Nat)) : Prop where
  lst : H o = some (.lst (as.map V.ref))
  reps : Reps (fun b p => H b = some (.tup [.int ((p.1 : Nat) : Int), .int ((p.2 : Nat) : Int)])) as ps
theorem PairsAt.same {H H' : Hp} {o : Addr} {as : List Addr} {ps : List (Nat × Nat)} (h : PairsAt H o as ps) (s : Same H H') : PairsAt H' o as ps := ⟨s _ _ h.lst, h.reps.mono fun _ _ q => s _ _ q⟩
theorem PairsAt.push {H : Hp} {o b : Addr} {as : List Addr} {ps : List (Nat × Nat)} {p : Nat × Nat} (h : PairsAt H o as ps) (hb : H b = some (.tup [.int ((p.1 : Nat) : Int), .int ((p.2 : Nat) : Int)])) :
    PairsAt (upd H o (.lst (as.map V.ref ++ [V.ref b]))) o (as ++ [b]) (ps ++ [p]) := by
  have ne : ∀ {c : Addr} {l : List V}, H c = some (.tup l) → c ≠ o := fun hc => ne_of hc h.lst (by intro z; cases z)
  refine ⟨by rw [upd_same, List.map_append]; rfl, (h.reps.mono fun c q hc => ?_).snoc ?_⟩
  · rw [upd_ne (ne hc)]
    exact hc
  · rw [upd_ne (ne hb)]
    exact hb
theorem tYes_of {σ : L2.St} {H : Hp} {Q : Bool → Hp → Prop} (h : Q true H) : tYes σ H Q := h
/-- a list that a comprehension makes -/
theorem lc_push {H1 : Hp} {D : Addr} {F : Nat → V} {i : Nat} {y : V} (hy : y = F i) (hi : i ≤ 1000000) : ∃ acc, (upd H1 D (.lst ((List.range i).map F))) D = some (.lst acc) ∧ acc.length < sizeLine ∧
    upd (upd H1 D (.lst ((List.range i).map F))) D (.lst (acc ++ [y])) = upd H1 D (.lst ((List.range (i + 1)).map F)) := by
  refine ⟨_, upd_same, line_of (by simpa using hi), ?_⟩
  rw [upd_upd, List.range_succ, List.map_append, hy]
  rfl
/-- truths, place by place -/
def marksV (n : Nat) (f : Nat → Bool) : List V := (List.range n).map fun t => V.bl (f t)
theorem marksV_len (n : Nat) (f : Nat → Bool) : (marksV n f).length = n := by simp [marksV]
theorem marksV_set (n : Nat) (f : Nat → Bool) (j : Nat) : (marksV n f).set j (V.bl false) = marksV n (fun t => f t && !decide (t = j)) := by
  unfold marksV
  refine List.ext_getElem? fun i => ?_
  by_cases hi : i < n
  · by_cases e : j = i
    · subst e
      rw [List.getElem?_set_self (by simpa using hi)]
      simp [hi]
    · rw [List.getElem?_set_ne e]
      simp [hi, Ne.symm e]
  · rw [List.getElem?_eq_none (by simpa using hi), List.getElem?_eq_none (by simpa using hi)]
theorem vN_get {ns : List Nat} {i : Nat} {x : V} (h : (vN ns)[i]? = some x) : ∃ n : Nat, ns[i]? = some n ∧ x = .int (n : Int) := by
  unfold vN at h
  rw [List.getElem?_map] at h
  cases e : ns[i]? with
  | none =>
    rw [e] at h
    cases h
  | some n =>
    rw [e] at h
    exact ⟨n, rfl, (Option.some.inj h).symm⟩
end Pg
namespace Pg
open PySem PySem.Spec PyProof.Rows L2
/-! ### the text by places -/
def topS (i : Nat) : Stmt := PySem.Challenge.pw_pagestraight_s10_st_smooth.main.body.getD i (.Pass ⟨0, 0, 0, 0⟩)
abbrev sSums : Stmt := topS 1
abbrev sSmoothed : Stmt := topS 2
abbrev sStSmooth : Stmt := topS 7
end Pg
namespace Pg
open PySem PySem.Spec PyProof.Rows L2
open PySem.W (Codec WData)
section
variable {P : Program} {w : World} {K : PySem.W.Frag} {mg : Str → Option Value} {base : Heap}
/-! ### sums_of -/
def preL (ns : List Nat) (i : Nat) : List Nat := (List.range i).map (pre ns)
theorem preL_len (ns : List Nat) (i : Nat) : (preL ns i).length = i := by simp [preL]
theorem preL_succ (ns : List Nat) (i : Nat) : vN (preL ns (i + 1)) = vN (preL ns i) ++ [V.int ((pre ns i : Nat) : Int)] := by
  unfold preL vN
  rw [List.range_succ, List.map_append, List.map_append]
  rfl
theorem preL_get {ns : List Nat} {i j : Nat} (h : j < i) : (preL ns i).getD j 0 = pre ns j := by simp [preL, h]
def spSums (K : PySem.W.Frag) : Sp := fun vs H Q _ => ∃ (a : Addr) (ns : List Nat), vs = [.ref a] ∧ SqL K H a (vN ns) ∧ ns.length ≤ 100000 ∧ ∀ H' o, Same H H' → H o = none → H' o = some (.lst (vN (preL ns (ns.length + 1)))) → Q (.ref o) H'
theorem scSums : FnScope ["numbers", "found", "number"] ["numbers"] (defScope sSums) := ⟨rfl, rfl, rfl, by decide +kernel, rfl, by decide +kernel, by decide +kernel⟩
theorem ok_sums_of {f : Addr} {fd : FuncData} (F : Fun K "sums_of" "sums_of" sSums f fd) : FnOk P w K mg base CX0 1 f fd ["numbers"] (spSums K) := by
  refine F.ok scSums (fun vs H Q E h => ?_) (fun cdv A outer s H vs Q E hr h => ?_)
  · obtain ⟨a, ns, rfl, _⟩ := h
    rfl
  · obtain ⟨a, ns, rfl, hA, hl, q⟩ := h
    have nd := scSums.nd
    refine ⟨_, pss_cons (ps_set (i := 1) nd rfl (.inl rfl) (pe_lst (pa_cons pe_int pa_nil)))
      (pss_cons (ps_for PassesOwn.never rfl (pi_list (pv 0)) (pg_name (i := 2) nd rfl (.inl rfl))
        (pss_one (ps_expr (pe_bm PySem.F.plainAttrs_list PySem.F.slot_list_append PySem.F.type_list_append mt_append (pv 1) (pa_cons (pe_op op_add (pe_ix ix_list (pv 1) (pe_un un_neg pe_int) (fun _ _ => rfl)) (pv 2)) pa_nil)))))
      (pss_one (ps_ret (pv 1)))), ?_⟩
    refine ⟨line_le (by show 1 ≤ _; decide), fun o no => ?_⟩
    have s0 : Same H (upd H o (.lst [.int 0])) := same_upd no
    refine ⟨_, rfl, a, rfl, ⟨_, s0.seq hA⟩, for_list (K := K) (a := a) (xs := vN ns) (fun i σ H' => ∃ v2, σ = [some (.ref a), some (.ref o), v2] ∧ Same H H' ∧ H' o = some (.lst (vN (preL ns (i + 1)))))
      ⟨none, rfl, s0, upd_same⟩ (fun i σ H' _ ⟨_, _, sm, _⟩ => sm.seq hA) ?_ ?_⟩
    · rintro i x σ H' hi ⟨v2, rfl, sm, eo⟩
      obtain ⟨n, hn, rfl⟩ := vN_get hi
      obtain ⟨hi2, en⟩ := List.getElem?_eq_some_iff.mp hn
      refine ⟨_, rfl, .inl ⟨rfl, _, SqL.of eo⟩, _, rfl, 1, rfl, o, _, _, _, rfl, rfl, SqL.of eo, (by rw [preL_succ]; exact atI_last _ _), _, rfl, _, _, rfl, rfl, o, _, _, rfl, rfl, eo, line_of (by rw [vN_len, preL_len]; omega), ?_⟩
      refine ⟨_, rfl, same_write sm no, ?_⟩
      have ep : pre ns (i + 1) = pre ns i + n := by
        rw [pre_succ hi2]
        simp [hi2, en]
      rw [upd_same, preL_succ ns (i + 1), ep, Int.natCast_add]
    · rintro σ H' ⟨v2, rfl, sm, eo⟩
      rw [vN_len] at eo
      exact ⟨_, rfl, q H' o sm no eo⟩
/-! ### smoothed -/
def spSmoothed (K : PySem.W.Frag) : Sp := fun vs H Q _ => ∃ (a : Addr) (ns : List Nat) (d : Nat), vs = [.ref a, .int (d : Int)] ∧ SqL K H a (vN ns) ∧ ns.length ≤ 100000 ∧ ∀ H' o, Same H H' → H o = none → H' o = some (.lst (vN (Sh57.smoothed d ns))) → Q (.ref o) H'
theorem scSmoothed : FnScope ["numbers", "far", "sums", "found", "at", "start", "end"] ["numbers", "far"] (defScope sSmoothed) := ⟨rfl, rfl, rfl, by decide +kernel, rfl, by decide +kernel, by decide +kernel⟩
theorem ok_smoothed {f : Addr} {fd : FuncData} (F : Fun K "smoothed" "smoothed" sSmoothed f fd) (hS : Has P w K mg base "sums_of" 1 ["numbers"] (spSums K)) (mr : mg "range" = none) (ml : mg "len" = none) (mx : mg "max" = none) (mn : mg "min" = none) :
    FnOk P w K mg base CX0 2 f fd ["numbers", "far"] (spSmoothed K) := by
  refine F.ok scSmoothed (fun vs H Q E h => ?_) (fun cdv A outer s H vs Q E hr h => ?_)
  · obtain ⟨a, ns, d, rfl, _⟩ := h
    rfl
  · obtain ⟨a, ns, d, rfl, hA, hl, q⟩ := h
    have nd := scSmoothed.nd
    refine ⟨_, pss_cons (ps_set (i := 2) nd rfl (.inl rfl) (pe_has hS hr (pa_cons (pv 0) pa_nil)))
      (pss_cons (ps_set (i := 3) nd rfl (.inl rfl) (pe_lst pa_nil))
      (pss_cons (ps_for PassesOwn.never rfl (pi_range1 (by rfl) mr (pa_cons (pe_callB call_len_seq (by rfl) ml PySem.boot_len (pa_cons (pv 0) pa_nil)) pa_nil)) (pg_name (i := 4) nd rfl (.inl rfl))
        (pss_cons (ps_set (i := 5) nd rfl (.inl rfl) (pe_callB (call_max2 rfl) (by rfl) mx (by decide +kernel) (pa_cons pe_int (pa_cons (pe_op op_sub (pv 4) (pv 1)) pa_nil))))
        (pss_cons (ps_set (i := 6) nd rfl (.inl rfl) (pe_callB (call_min2 rfl) (by rfl) mn (by decide +kernel) (pa_cons (pe_callB call_len_seq (by rfl) ml PySem.boot_len (pa_cons (pv 0) pa_nil)) (pa_cons (pe_op op_add (pe_op op_add (pv 4) (pv 1)) pe_int) pa_nil))))
        (pss_one (ps_expr (pe_bm PySem.F.plainAttrs_list PySem.F.slot_list_append PySem.F.type_list_append mt_append (pv 3)
          (pa_cons (pe_op op_fdiv (pe_op op_sub (pe_ix ix_list (pv 2) (pv 6) (fun _ _ => rfl)) (pe_ix ix_list (pv 2) (pv 5) (fun _ _ => rfl))) (pe_op op_sub (pv 6) (pv 5))) pa_nil)))))))
      (pss_one (ps_ret (pv 3))))), ?_⟩
    refine ⟨_, rfl, a, ns, rfl, hA, hl, fun H1 u sm0 nu eu => ?_⟩
    refine ⟨Nat.zero_le _, fun o no => ?_⟩
    have noH : H o = none := sm0.free no
    have s1 : Same H (upd H1 o (.lst [])) := sm0.trans (same_upd no)
    have eu1 : (upd H1 o (.lst [])) u = some (.lst (vN (preL ns (ns.length + 1)))) := same_upd no _ _ eu
    have hlen := vN_len ns
    refine ⟨_, rfl, a, _, rfl, .inl (s1.seq hA), _, rfl, by omega, by omega, ?_⟩
    have neu : u ≠ o := ne_of_none eu no
    refine for_range (fun i σ H' => ∃ v4 v5 v6, σ = [some (.ref a), some (.int (d : Int)), some (.ref u), some (.ref o), v4, v5, v6] ∧ Same H H' ∧ H' u = some (.lst (vN (preL ns (ns.length + 1)))) ∧ H' o = some (.lst (vN ((List.range i).map (smo d ns)))))
      ⟨none, none, none, rfl, s1, eu1, upd_same⟩ ?_ ?_
    · rintro i σ H' hi ⟨v4, v5, v6, rfl, sm, eu, eo⟩
      have hi2 : i < ns.length := by omega
      have hA' := sm.seq hA
      have es : (if (0 + (i : Int)) - (d : Int) > 0 then (0 + (i : Int)) - (d : Int) else 0) = ((i - d : Nat) : Int) := by split <;> omega
      have ee : (if (0 + (i : Int)) + (d : Int) + 1 < ((vN ns).length : Int) then (0 + (i : Int)) + (d : Int) + 1 else ((vN ns).length : Int)) = ((min ns.length (i + d + 1) : Nat) : Int) := by split <;> omega
      refine ⟨_, rfl, _, rfl, _, _, rfl, rfl, _, _, rfl, ?_⟩
      rw [es]
      refine ⟨_, rfl, a, _, rfl, .inl hA', _, rfl, _, rfl, _, _, rfl, rfl, _, _, rfl, rfl, _, _, rfl, ?_⟩
      rw [ee]
      refine ⟨_, rfl, .inl ⟨rfl, _, SqL.of eo⟩, _, rfl, _, rfl, u, _, _, _, rfl, rfl, SqL.of eu, vN_at (by rw [preL_len]; omega), _, rfl, _, rfl, u, _, _, _, rfl, rfl, SqL.of eu, vN_at (by rw [preL_len]; omega), _, _, rfl, rfl,
        _, rfl, _, rfl, _, _, rfl, rfl, _, _, rfl, rfl, ⟨by omega, by omega⟩, ?_⟩
      have key := smo_int d ns hi2
      refine ⟨o, _, _, rfl, rfl, eo, line_of (by rw [vN_len, List.length_map, List.length_range]; omega), ?_⟩
      refine ⟨_, _, _, rfl, same_write sm noH, (upd_ne neu).trans eu, ?_⟩
      rw [upd_same, List.range_succ]
      unfold vN
      rw [List.map_append, List.map_append]
      rw [← preL_get (ns := ns) (i := ns.length + 1) (by omega), ← preL_get (ns := ns) (i := ns.length + 1) (j := i - d) (by omega)] at key
      exact congrArg (fun z => some (HO.lst (_ ++ [V.int z]))) key.symm
    · rintro σ H' ⟨v4, v5, v6, rfl, sm, eu, eo⟩
      have e : ((vN ns).length : Int).toNat = ns.length := by omega
      rw [e, ← smoothed_is] at eo
      exact ⟨_, rfl, q H' o sm noH eo⟩
/-! ### st_smooth -/
def spStSmooth (K : PySem.W.Frag) : Sp := fun vs H Q _ => ∃ (d : Nat) (a : Addr) (ns : List Nat), vs = [.int (d : Int), .ref a] ∧ SqL K H a (vN ns) ∧ ns.length ≤ 4200 ∧
  ∀ H' p, H' p = some (.lst ((PySh57.st_smooth (d : Int) (ns.map fun n => ((n : Nat) : Int))).map V.int)) → Q (.ref p) H'
theorem scStSmooth : FnScope ["d", "l"] ["d", "l"] (defScope sStSmooth) := ⟨rfl, rfl, rfl, by decide +kernel, rfl, by decide +kernel, by decide +kernel⟩
theorem smoothed_len (d : Nat) (ns : List Nat) : (Sh57.smoothed d ns).length = ns.length := by rw [smoothed_is]; simp
theorem ok_st_smooth {f : Addr} {fd : FuncData} {t1 t2 t3 : Tok} (F : Fun K "st_smooth" "st_smooth" sStSmooth f fd) (hS : Has P w K mg base "smoothed" 2 ["numbers", "far"] (spSmoothed K)) (ml : mg "len" = none) (gS : mg "MOST_SHEAR" = some (.int 4096 t3))
    (gM : mg "MOST_NUMBERS" = some (.int 4096 t1)) (gB : mg "BAD" = some (.int (-2) t2)) : FnOk P w K mg base CX0 3 f fd ["d", "l"] (spStSmooth K) := by
  refine F.ok scStSmooth (fun vs H Q E h => ?_) (fun cdv A outer s H vs Q E hr h => ?_)
  · obtain ⟨d, a, ns, rfl, _⟩ := h
    rfl
  · obtain ⟨d, a, ns, rfl, hA, hl, q⟩ := h
    refine ⟨_, pss_cons (ps_if (pw_or (pt_cmpR op_gt (pv 0) (pe_gi gS) (nomark _)) (pw_or1 (pt_cmpR op_gt (pe_callB call_len_seq (by rfl) ml PySem.boot_len (pa_cons (pv 1) pa_nil)) (pe_gi gM) (nomark _)))).pt (pss_one (ps_ret (pe_lst (pa_cons (pe_gi gB) pa_nil)))) pss_nil)
      (pss_one (ps_ret (pe_op op_cat (pe_lst (pa_cons pe_int pa_nil)) (pe_has hS hr (pa_cons (pv 1) (pa_cons (pv 0) pa_nil)))))), ?_⟩
    have hlen := vN_len ns
    rw [st_smooth_is] at q
    refine ⟨_, rfl, _, _, rfl, rfl, _, rfl, ite2 (fun e => ?_) (fun e => ?_)⟩
    · have e : (4096 : Int) < (d : Int) := of_decide_eq_true e
      rw [if_neg (by omega)] at q
      exact iteT ⟨line_le (by show 1 ≤ _; decide), fun p hp => q _ p upd_same⟩
    · have e : ¬ (4096 : Int) < (d : Int) := fun h => e (decide_eq_true h)
      refine ⟨_, rfl, a, _, rfl, .inl hA, _, _, rfl, rfl, _, rfl, ite2 (fun e => ?_) (fun e => ?_)⟩
      · have e : (4096 : Int) < ((vN ns).length : Int) := of_decide_eq_true e
        rw [if_neg (by omega)] at q
        exact ⟨line_le (by show 1 ≤ _; decide), fun p hp => q _ p upd_same⟩
      · have e : ¬ (4096 : Int) < ((vN ns).length : Int) := fun h => e (decide_eq_true h)
        rw [if_pos (by omega)] at q
        refine ⟨line_le (by show 1 ≤ _; decide), fun z hz => ⟨_, rfl, _, rfl, a, ns, d, rfl, (same_upd hz).seq hA, by omega, fun H' o sm no eo => ?_⟩⟩
        refine ⟨z, o, _, _, rfl, rfl, sm _ _ upd_same, eo, line_le (by rw [vN_len, smoothed_len]; show 1 + _ ≤ _; omega), fun p hp => ?_⟩
        refine q _ p ?_
        rw [upd_same, vN_ints]
        rfl
theorem end_smooth {H : Hp} {xs : List V} {z : Int} {l : List Int} (hwi : (Codec.inInt 0 4294967295 z && ((Codec.inLen 0 4200 l && l.all (Codec.inInt 0 4294967295)) && true)) = true)
    (hx : DwAll K H xs [.int z, .list (l.map WData.int)]) : spStSmooth K xs H (fun v H' => Dw K H' v (.list ((PySh57.st_smooth z l).map WData.int))) fun _ _ _ => False := by
  rw [Bool.and_true, Bool.and_eq_true] at hwi
  obtain ⟨d, rfl, _⟩ := nat_of hwi.1
  obtain ⟨ns, rfl, hl, hb⟩ := list_of hwi.2
  obtain ⟨v1, r1, rfl, e1, hx1⟩ := dw_one_of hx
  obtain ⟨v, r, rfl, e, hx2⟩ := dw_one_of hx1
  obtain ⟨a, rfl, hS⟩ := list_dw e
  cases dw_nil_of hx2
  cases int_dw e1
  refine ⟨d, a, ns, rfl, ?_, hl, fun H' p hp => ans_dw hp⟩
  rw [vN_ints]
  exact hS
end
end Pg
namespace Pg
open PySem PySem.Spec PyProof.Rows L2
/-! ### what the top has written -/
theorem all_mk {P : Program} {w : World} {K : PySem.W.Frag} {h : Heap} {mg : Str → Option Value} {fa f1 f2 f3 : Addr} (X : K.In h) (G : h.Ns mainGlobals mg) (hfa : mg "st_smooth" = some (.ref fa))
    {od1 od2 od3 an1 an2 an3 : Option Addr} {sl1 sl2 sl3 : Array (Option Value)} {oc1 oc2 oc3 kV1 kV2 kV3 dc1 dc2 dc3 pm1 pm2 pm3 cd1 cd2 cd3 ct1 ct2 ct3 : Value} {t5 t6 t7 : Tok}
    (a1 : PySem.W.nsIn K mainGlobals "sums_of" = some (some (.ref f1))) (l1 : K.lookup f1 = some ⟨oc1, od1, .func (PySem.W.fnOf "sums_of" "sums_of" (defArgs sSums) (defBody sSums) (defScope sSums) .none kV1 dc1 pm1 an1 cd1 ct1), sl1⟩) (c1 : PySem.W.codeIn K cd1 "sums_of" = true) (k1 : PySem.W.keepIn K (.ref f1) = true)
    (a2 : PySem.W.nsIn K mainGlobals "smoothed" = some (some (.ref f2))) (l2 : K.lookup f2 = some ⟨oc2, od2, .func (PySem.W.fnOf "smoothed" "smoothed" (defArgs sSmoothed) (defBody sSmoothed) (defScope sSmoothed) .none kV2 dc2 pm2 an2 cd2 ct2), sl2⟩) (c2 : PySem.W.codeIn K cd2 "smoothed" = true) (k2 : PySem.W.keepIn K (.ref f2) = true)
    (a3 : PySem.W.nsIn K mainGlobals "st_smooth" = some (some (.ref f3))) (l3 : K.lookup f3 = some ⟨oc3, od3, .func (PySem.W.fnOf "st_smooth" "st_smooth" (defArgs sStSmooth) (defBody sStSmooth) (defScope sStSmooth) .none kV3 dc3 pm3 an3 cd3 ct3), sl3⟩) (c3 : PySem.W.codeIn K cd3 "st_smooth" = true) (k3 : PySem.W.keepIn K (.ref f3) = true)
    (g1 : PySem.W.nsIn K mainGlobals "range" = some none)
    (g2 : PySem.W.nsIn K mainGlobals "len" = some none)
    (g3 : PySem.W.nsIn K mainGlobals "max" = some none)
    (g4 : PySem.W.nsIn K mainGlobals "min" = some none)
    (g5 : PySem.W.nsIn K mainGlobals "MOST_SHEAR" = some (some (.int (4096) t5)))
    (g6 : PySem.W.nsIn K mainGlobals "MOST_NUMBERS" = some (some (.int (4096) t6)))
    (g7 : PySem.W.nsIn K mainGlobals "BAD" = some (some (.int (-2) t7)))
    : ∃ fd : FuncData, (∀ (s : Shared) (us : List Value), us.length = (["d", "l"] : List Str).length → BindsTo s fd ⟨us, []⟩ ((["d", "l"] : List Str).zip us)) ∧ ∀ base : Heap, K.In base → base.Ns mainGlobals mg → FnOk P w K mg base CX0 3 fa fd ["d", "l"] (spStSmooth K) := by
  have e := hfa.symm.trans (PySem.W.mg_of X G a3)
  cases e
  have F1 := fun_mk (st := sSums) l1 c1 k1
  have F2 := fun_mk (st := sSmoothed) l2 c2 k2
  have F3 := fun_mk (st := sStSmooth) l3 c3 k3
  refine ⟨PySem.W.fnOf "st_smooth" "st_smooth" (defArgs sStSmooth) (defBody sStSmooth) (defScope sStSmooth) .none kV3 dc3 pm3 an3 cd3 ct3, fun s us hu => match us, hu with | [_, _], _ => .of_eq rfl, fun base _ _ => ?_⟩
  have H1 : Has P w K mg base "sums_of" 1 ["numbers"] (spSums K) := ⟨_, _, ok_sums_of F1, PySem.W.mg_of X G a1, k1, F1.binds (ps := ["numbers"]) fun _ _ _ _ _ _ us hl => match us, hl with | [_], _ => rfl⟩
  have H2 : Has P w K mg base "smoothed" 2 ["numbers", "far"] (spSmoothed K) := ⟨_, _, ok_smoothed F2 H1 (PySem.W.mg_none_of X G g1) (PySem.W.mg_none_of X G g2) (PySem.W.mg_none_of X G g3) (PySem.W.mg_none_of X G g4), PySem.W.mg_of X G a2, k2, F2.binds (ps := ["numbers", "far"]) fun _ _ _ _ _ _ us hl => match us, hl with | [_, _], _ => rfl⟩
  exact ok_st_smooth F3 H2 (PySem.W.mg_none_of X G g2) (PySem.W.mg_of X G g5) (PySem.W.mg_of X G g6) (PySem.W.mg_of X G g7)
end Pg
open PySem PySem.W PyProof.Rows
set_option maxRecDepth 100000 in
set_option maxHeartbeats 0 in
theorem PySem.Challenge.cw_pagestraight_s10_st_smooth_holds : PySem.Challenge.rw_pagestraight_s10_st_smooth.Holds := by
  w_on; k_headS; (case hw => exact ⟨[.int 0, .list []], by decide +kernel, by decide +kernel⟩)
  k_fillS
  refine L2.walk_specK (r := PySem.Challenge.rw_pagestraight_s10_st_smooth) (k := 3) (CX := L2.CX0) (ps := ["d", "l"]) (sp := fun K => Pg.spStSmooth K) (by decide +kernel) rfl rfl ⟨rfl, by decide, by decide⟩ (fun w h Y => PySem.W.kIn_of Y) ?F ?S (fun _ _ _ _ z => z)
  case F =>
    intro w mg fa h Y KX G hmg
    refine' Pg.all_mk KX G hmg ?a1 ?l1 ?c1 ?k1 ?a2 ?l2 ?c2 ?k2 ?a3 ?l3 ?c3 ?k3 ?g1 ?g2 ?g3 ?g4 ?g5 ?g6 ?g7
    (case a1 => k_is)
    (case l1 => k_is)
    (case c1 => k_is)
    (case k1 => k_is)
    (case a2 => k_is)
    (case l2 => k_is)
    (case c2 => k_is)
    (case k2 => k_is)
    (case a3 => k_is)
    (case l3 => k_is)
    (case c3 => k_is)
    (case k3 => k_is)
    (case g1 => k_is)
    (case g2 => k_is)
    (case g3 => k_is)
    (case g4 => k_is)
    (case g5 => k_is)
    (case g6 => k_is)
    (case g7 => k_is)
  case S =>
    intro K H xs a hO hwi hask hx
    obtain ⟨x1, x2, u⟩ := a
    exact Pg.end_smooth hwi hx
#print axioms PySem.Challenge.cw_pagestraight_s10_st_smooth_holds
