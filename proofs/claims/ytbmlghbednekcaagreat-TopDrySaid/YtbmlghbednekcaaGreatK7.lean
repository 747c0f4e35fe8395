/- Parts TbA, TdA, TdB, TdC, TdD, TdE, TdF, TdG, TdH, EsA, EsD of the proof, one behind the other. No statement is proved here. -/
import Derived.Test.YtbmlghbednekcaaGreatK5
import Derived.KernelRfl
import Derived.Test.YtbmlghbednekcaaGreatK3
set_option linter.unusedVariables false -- all
set_option linter.unusedSimpArgs false
namespace Go.Am
open Go.RowKit Go.Proofs
set_option linter.unusedSimpArgs false
set_option linter.unusedVariables false
def tab {α : Type} (n : Nat) (f : Nat → α) : List α := (List.range n).map f
section
variable {α : Type} {n : Nat} {f g : Nat → α}
theorem tab_length : (tab n f).length = n := by simp [tab]
theorem tab_getD {j : Nat} {d : α} (h : j < n) : (tab n f).getD j d = f j := by simp [tab, List.getD_eq_getElem?_getD, h]
theorem tab_congr (h : ∀ j, j < n → f j = g j) : tab n f = tab n g := List.map_congr_left fun j hj => h j (by simpa using hj)
def isp (l : List α) (j : Nat) (v : α) : List α := l.take j ++ v :: l.drop (j + 1)
theorem isp_set {l : List α} {j : Nat} {v : α} (h : j < l.length) : isp l j v = l.set j v := by rw [List.set_eq_take_append_cons_drop, if_pos h]; rfl
theorem isp_length {l : List α} {j : Nat} {v : α} (h : j < l.length) : (isp l j v).length = l.length := by rw [isp_set h, List.length_set]
theorem isp_getD {l : List α} {j k : Nat} {v d : α} (h : j < l.length) : (isp l j v).getD k d = if k = j then v else l.getD k d := by
  rw [isp_set h]
  simp only [List.getD_eq_getElem?_getD, List.getElem?_set]
  by_cases e : j = k
  · subst e; simp [h]
  · rw [if_neg e, if_neg (Ne.symm e)]
theorem isp_tab {j : Nat} {v : α} (h : j < n) : isp (tab n f) j v = tab n fun i => if i = j then v else f i := by
  rw [isp_set (by rw [tab_length]; exact h)]
  apply List.ext_getElem
  · simp [tab]
  · intro i a b
    simp only [tab, List.getElem_set, List.getElem_map, List.getElem_range]
    by_cases e : j = i
    · subst e; simp
    · rw [if_neg e, if_neg (Ne.symm e)]
theorem tab_fill {n v : Nat} {G : Nat → Bool} {b : Bool} (h : v < n) (hb : G v = b) : isp (tab n fun i => if i < v then G i else false) v b = tab n fun i => if i < v + 1 then G i else false := by
  rw [isp_tab h]
  refine tab_congr fun i _ => ?_
  rcases Nat.lt_trichotomy i v with h9 | h9 | h9
  · simp only [show ¬ i = v by omega, h9, show i < v + 1 by omega, if_true, if_false]
  · subst h9; simp [hb]
  · simp only [show ¬ i = v by omega, show ¬ i < v by omega, show ¬ i < v + 1 by omega, if_false]
theorem replicate_tab {a : α} : List.replicate n a = tab n fun _ => a := by
  apply List.ext_getElem
  · simp [tab]
  · intro i h1 h2; simp [tab]
end
def bools (l : List Bool) : List AV := l.map .bool
theorem bools_length {l : List Bool} : (bools l).length = l.length := by simp [bools]
theorem pl_bools {l : List Bool} : pureL (bools l) = True := by
  simp only [pureL, bools, List.mem_map, eq_iff_iff, iff_true]
  rintro _ ⟨a, _, rfl⟩; rfl
theorem al_bools {l : List Bool} {p : Nat → Bool} : (bools l).all (live2 p) = true := by
  simp only [bools, List.all_map, List.all_eq_true]
  intro z _; rfl
theorem nth_bools {l : List Bool} {j : Nat} {K : AV → Prop} : optK (nth (bools l) j) K = (j < l.length ∧ K (.bool (l.getD j false))) := by
  rw [← nth_is]
  simp only [bools, List.getElem?_map]
  by_cases h : j < l.length
  · simp [h, optK, List.getD_eq_getElem?_getD]
  · simp [h, optK]
theorem sp_bools {l : List Bool} {j : Nat} {b : Bool} : splice (bools l) j [.bool b] = bools (isp l j b) := by
  simp [splice, bools, isp, List.map_take, List.map_drop]
theorem sp_ints {l : List Int} {j : Nat} {v : Int} : splice (ints l) j [.int .i64 v] = ints (isp l j v) := by
  simp [splice, ints, isp, List.map_take, List.map_drop]
theorem rep_ints {n : Nat} {v : Int} : (List.replicate n [AV.int .i64 v]).flatten = ints (tab n fun _ => v) := by
  rw [← replicate_tab]
  induction n with
  | zero => rfl
  | succ n ih => rw [List.replicate_succ, List.flatten_cons, ih]; rfl
theorem rep_bools {n : Nat} {v : Bool} : (List.replicate n [AV.bool v]).flatten = bools (tab n fun _ => v) := by
  rw [← replicate_tab]
  induction n with
  | zero => rfl
  | succ n ih => rw [List.replicate_succ, List.flatten_cons, ih]; rfl
attribute [go_sem] bools_length pl_bools al_bools nth_bools sp_bools tab_length
attribute [go_sem] sp_ints
section
variable {κ ν : Type} [DecidableEq κ]
def gmC (eK : κ → AV) (eV : ν → AV) (m : List (κ × ν)) : List (AV × AV) := m.map fun e => (eK e.1, eV e.2)
def gmGet : List (κ × ν) → κ → Option ν
  | [], _ => none
  | e :: m, k => if e.1 = k then some e.2 else gmGet m k
def gmPut : List (κ × ν) → κ → ν → List (κ × ν)
  | [], k, v => [(k, v)]
  | e :: m, k, v => if e.1 = k then (k, v) :: m else e :: gmPut m k v
def KeyE (eK : κ → AV) : Prop := ∀ a b v es, mapFind ((eK a, v) :: es) (eK b) = if a = b then some (some (0, v)) else (mapFind es (eK b)).map (·.map fun p => (p.1 + 1, p.2))
theorem gfind {eK : κ → AV} {eV : ν → AV} (he : KeyE eK) (k : κ) : ∀ m : List (κ × ν),
    (∃ i v, mapFind (gmC eK eV m) (eK k) = some (some (i, eV v)) ∧ gmGet m k = some v ∧ (∀ a, (gmC eK eV m).set i (eK k, eV a) = gmC eK eV (gmPut m k a))) ∨
    (mapFind (gmC eK eV m) (eK k) = some none ∧ gmGet m k = none ∧ (∀ a, gmC eK eV m ++ [(eK k, eV a)] = gmC eK eV (gmPut m k a)))
  | [] => .inr ⟨by simp [gmC, mapFind], rfl, fun a => rfl⟩
  | e :: m => by
    have hc : mapFind (gmC eK eV (e :: m)) (eK k) = if e.1 = k then some (some (0, eV e.2)) else (mapFind (gmC eK eV m) (eK k)).map (·.map fun p => (p.1 + 1, p.2)) := he _ _ _ _
    by_cases h : e.1 = k
    · refine .inl ⟨0, e.2, ?_, ?_, fun a => ?_⟩
      · rw [hc, if_pos h]
      · simp [gmGet, h]
      · simp [gmC, gmPut, h]
    · rcases gfind he k m with ⟨i, v, h1, h2, h3⟩ | ⟨h1, h2, h3⟩
      · refine .inl ⟨i + 1, v, ?_, by simp [gmGet, h, h2], fun a => ?_⟩
        · rw [hc, if_neg h, h1]; rfl
        · have := h3 a
          simp only [gmC, List.map_cons, gmPut, h, if_false, List.set_cons_succ] at this ⊢
          rw [this]
      · refine .inr ⟨?_, by simp [gmGet, h, h2], fun a => ?_⟩
        · rw [hc, if_neg h, h1]; rfl
        · have := h3 a
          simp only [gmC, List.map_cons, gmPut, h, if_false, List.cons_append] at this ⊢
          rw [this]
theorem mup_g {eK : κ → AV} {eV : ν → AV} (he : KeyE eK) {m : List (κ × ν)} {k : κ} {v : ν} {f : List (AV × AV) → Prop} : mupK (gmC eK eV m) (eK k) (eV v) f = f (gmC eK eV (gmPut m k v)) := by
  rcases gfind (eV := eV) he k m with ⟨i, w, h1, h2, h3⟩ | ⟨h1, h2, h3⟩
  · simp only [mupK, h1, h3]
  · simp only [mupK, h1, h3]
theorem mget_gs {eK : κ → AV} {eV : ν → AV} (he : KeyE eK) {m : List (κ × ν)} {k : κ} {v : ν} {z : AV} {f : AV → Bool → Prop} (h : gmGet m k = some v) : mgetK (gmC eK eV m) (eK k) z f = f (eV v) true := by
  rcases gfind (eV := eV) he k m with ⟨i, w, h1, h2, h3⟩ | ⟨h1, h2, h3⟩
  · rw [h] at h2; cases h2; simp only [mgetK, h1]
  · rw [h] at h2; cases h2
theorem mget_gn {eK : κ → AV} {eV : ν → AV} (he : KeyE eK) {m : List (κ × ν)} {k : κ} {z : AV} {f : AV → Bool → Prop} (h : gmGet m k = none) : mgetK (gmC eK eV m) (eK k) z f = f z false := by
  rcases gfind (eV := eV) he k m with ⟨i, w, h1, h2, h3⟩ | ⟨h1, h2, h3⟩
  · rw [h] at h2; cases h2
  · simp only [mgetK, h1]
theorem gmPut_length {m : List (κ × ν)} {k : κ} {v : ν} : (gmPut m k v).length = if k ∈ m.map (·.1) then m.length else m.length + 1 := by
  induction m with
  | nil => simp [gmPut]
  | cons e m ih =>
    simp only [gmPut, List.map_cons, List.mem_cons]
    by_cases h : e.1 = k
    · rw [if_pos h, if_pos (.inl h.symm)]; simp
    · rw [if_neg h]
      by_cases h2 : k ∈ m.map (·.1)
      · rw [if_pos (.inr h2), List.length_cons, List.length_cons, ih, if_pos h2]
      · rw [if_neg (by rintro (rfl | h3); exact h rfl; exact h2 h3), List.length_cons, List.length_cons, ih, if_neg h2]
theorem gmPut_keys {m : List (κ × ν)} {k x : κ} {v : ν} : x ∈ (gmPut m k v).map (·.1) ↔ x = k ∨ x ∈ m.map (·.1) := by
  induction m with
  | nil => simp [gmPut]
  | cons e m ih =>
    simp only [gmPut]
    by_cases h : e.1 = k
    · rw [if_pos h]
      simp only [List.map_cons, List.mem_cons]
      rw [h]
      constructor
      · rintro (h1 | h1)
        · exact .inl h1
        · exact .inr (.inr h1)
      · rintro (h1 | h1 | h1)
        · exact .inl h1
        · exact .inl h1
        · exact .inr h1
    · rw [if_neg h]
      simp only [List.map_cons, List.mem_cons, ih]
      constructor
      · rintro (h1 | h1 | h1)
        · exact .inr (.inl h1)
        · exact .inl h1
        · exact .inr (.inr h1)
      · rintro (h1 | h1 | h1)
        · exact .inr (.inl h1)
        · exact .inl h1
        · exact .inr (.inr h1)
end
def bmC (m : List (Int × Bool)) : List (AV × AV) := gmC (AV.int .i64) AV.bool m
theorem key_int : KeyE (AV.int .i64) := fun a b v es => by
  simp only [mapFind, if_true]
theorem mup_bm {m : List (Int × Bool)} {n : Int} {b : Bool} {f : List (AV × AV) → Prop} : mupK (bmC m) (.int .i64 n) (.bool b) f = f (bmC (gmPut m n b)) := mup_g key_int
theorem al_bm {q : Nat → Bool} {m : List (Int × Bool)} : ((bmC m).all fun e => live2 q e.1 && live2 q e.2) = true := by
  simp only [bmC, gmC, List.all_map, List.all_eq_true]
  intro e _; rfl
theorem bm_length {m : List (Int × Bool)} : (bmC m).length = m.length := by simp [bmC, gmC]
attribute [go_sem] mup_bm al_bm bm_length
def putAll (g : Int → Bool) : List Int → List (Int × Bool)
  | [] => []
  | k :: l => gmPut (putAll g l) k (g k)
theorem putAll_keys {g : Int → Bool} {x : Int} : ∀ {l : List Int}, x ∈ (putAll g l).map (·.1) ↔ x ∈ l
  | [] => by simp [putAll]
  | k :: l => by simp only [putAll]; rw [gmPut_keys, putAll_keys]; simp
theorem putAll_length {g : Int → Bool} : ∀ {l : List Int}, (putAll g l).length ≤ l.length ∧ ((putAll g l).length = l.length ↔ l.Nodup)
  | [] => by simp [putAll]
  | k :: l => by
    obtain ⟨h1, h2⟩ := putAll_length (g := g) (l := l)
    simp only [putAll]
    rw [gmPut_length]
    simp only [putAll_keys, List.length_cons, List.nodup_cons]
    by_cases h : k ∈ l
    · rw [if_pos h]
      exact ⟨by omega, ⟨fun e => by omega, fun e => absurd h e.1⟩⟩
    · rw [if_neg h]
      exact ⟨by omega, ⟨fun e => ⟨h, h2.1 (by omega)⟩, fun e => by rw [h2.2 e.2]⟩⟩
theorem rev_take_succ {l : List Int} {k : Nat} (h : k < l.length) : (l.take (k + 1)).reverse = l.getD k 0 :: (l.take k).reverse := by
  rw [take_snoc (d := 0) h]; simp
theorem nodup_le : ∀ (n : Nat) (l : List Int), l.Nodup → (∀ x ∈ l, 0 ≤ x ∧ x < n) → l.length ≤ n
  | 0, l, _, h => by
    cases l with
    | nil => simp
    | cons x l => have := h x (by simp); omega
  | n + 1, l, hn, h => by
    have h1 := nodup_le n (l.erase (n : Int)) (hn.erase _) (fun x hx => by
      rw [hn.mem_erase_iff] at hx
      have := h x hx.2
      have := hx.1
      omega)
    rw [List.length_erase] at h1
    split at h1 <;> omega
end Go.Am
namespace Go.Am
set_option linter.unusedSimpArgs false
set_option linter.unusedVariables false
def ndiff (a b : Nat) : Nat := a &&& (255 ^^^ b)
def lowB (m : Nat) : Nat := m &&& ((256 - m) % 256)
def u8and (a b : Int) : Int := IntKind.u8.wrap (BitVec.ofInt IntKind.u8.bits a &&& BitVec.ofInt IntKind.u8.bits b).toNat
def u8or (a b : Int) : Int := IntKind.u8.wrap (BitVec.ofInt IntKind.u8.bits a ||| BitVec.ofInt IntKind.u8.bits b).toNat
theorem wrap_nat {n : Nat} (h : n < 256) : IntKind.u8.wrap (n : Int) = n := by
  have h1 : IntKind.u8.wrap (n : Int) = ((n : Int) % 256) := rfl
  rw [h1]; omega
theorem ofInt_nat {a : Nat} : (BitVec.ofInt IntKind.u8.bits (a : Int)) = BitVec.ofNat 8 a := BitVec.ofInt_natCast _ _
theorem u8and_nat {a b : Nat} (ha : a < 256) (hb : b < 256) : u8and a b = ((a &&& b : Nat) : Int) := by
  have : (BitVec.ofNat 8 a &&& BitVec.ofNat 8 b).toNat = a &&& b := by
    rw [BitVec.toNat_and, BitVec.toNat_ofNat, BitVec.toNat_ofNat, Nat.mod_eq_of_lt (by omega), Nat.mod_eq_of_lt (by omega)]
  unfold u8and
  rw [ofInt_nat, ofInt_nat]
  show IntKind.u8.wrap ((BitVec.ofNat 8 a &&& BitVec.ofNat 8 b).toNat : Int) = _
  rw [this, wrap_nat (Nat.lt_of_le_of_lt Nat.and_le_left ha)]
theorem u8or_nat {a b : Nat} (ha : a < 256) (hb : b < 256) : u8or a b = ((a ||| b : Nat) : Int) := by
  have : (BitVec.ofNat 8 a ||| BitVec.ofNat 8 b).toNat = a ||| b := by
    rw [BitVec.toNat_or, BitVec.toNat_ofNat, BitVec.toNat_ofNat, Nat.mod_eq_of_lt (by omega), Nat.mod_eq_of_lt (by omega)]
  unfold u8or
  rw [ofInt_nat, ofInt_nat]
  show IntKind.u8.wrap ((BitVec.ofNat 8 a ||| BitVec.ofNat 8 b).toNat : Int) = _
  rw [this, wrap_nat (Nat.or_lt_two_pow (n := 8) ha hb)]
theorem andn_nat {a b : Nat} (ha : a < 256) (hb : b < 256) : IntKind.u8.wrap (BitVec.ofInt IntKind.u8.bits a &&& ~~~ BitVec.ofInt IntKind.u8.bits b).toNat = ((ndiff a b : Nat) : Int) := by
  have h255 : (255 ^^^ b) = 255 - b := by
    have := (List.all_eq_true.1 (show (List.range 256).all (fun b => (255 ^^^ b) == 255 - b) = true by kernel_rfl)) b (by simpa using hb)
    simpa using this
  have : (BitVec.ofNat 8 a &&& ~~~ BitVec.ofNat 8 b).toNat = ndiff a b := by
    rw [BitVec.toNat_and, BitVec.toNat_not, BitVec.toNat_ofNat, BitVec.toNat_ofNat, Nat.mod_eq_of_lt (by omega), Nat.mod_eq_of_lt (by omega)]
    unfold ndiff
    rw [h255]
  rw [ofInt_nat, ofInt_nat]
  show IntKind.u8.wrap ((BitVec.ofNat 8 a &&& ~~~ BitVec.ofNat 8 b).toNat : Int) = _
  rw [this, wrap_nat (n := ndiff a b) (Nat.lt_of_le_of_lt Nat.and_le_left ha)]
theorem neg_nat {m : Nat} (h : m < 256) : IntKind.u8.wrap (0 - (m : Int)) = (((256 - m) % 256 : Nat) : Int) := by
  have h1 : IntKind.u8.wrap (0 - (m : Int)) = ((0 - (m : Int)) % 256) := rfl
  rw [h1]; omega
theorem low_nat {m : Nat} (h : m < 256) : u8and m (IntKind.u8.wrap (0 - (m : Int))) = ((lowB m : Nat) : Int) := by
  rw [neg_nat h, u8and_nat (b := (256 - m) % 256) h (by omega)]; rfl
theorem sub_nat {m : Nat} (h : m < 256) (h0 : m ≠ 0) : IntKind.u8.wrap ((m : Int) - 1) = ((m - 1 : Nat) : Int) := by
  have h1 : IntKind.u8.wrap ((m : Int) - 1) = (((m : Int) - 1) % 256) := rfl
  rw [h1]; omega
theorem shr_nat {m k : Nat} (h : m < 256) (hk : k < 8) : (u8and ((m : Int).fdiv (2 ^ (min (k : Int).toNat IntKind.u8.bits))) 1 = 1) = (m.testBit k = true) := by
  have e1 : min (k : Int).toNat IntKind.u8.bits = k := by
    have : IntKind.u8.bits = 8 := rfl
    rw [this]; omega
  have e2 : (m : Int).fdiv (2 ^ k) = ((m / 2 ^ k : Nat) : Int) := by
    rw [show ((2 : Int) ^ k) = ((2 ^ k : Nat) : Int) by simp]
    rw [Int.fdiv_eq_ediv_of_nonneg _ (Int.natCast_nonneg _)]; rfl
  have e3 : m / 2 ^ k < 256 := Nat.lt_of_le_of_lt (Nat.div_le_self _ _) h
  rw [e1, e2, show (1 : Int) = ((1 : Nat) : Int) from rfl, u8and_nat e3 (by omega), Nat.testBit_eq_decide_div_mod_eq]
  rw [Nat.and_one_is_mod]
  simp only [decide_eq_true_eq, eq_iff_iff]
  omega
theorem lowB_lt {m : Nat} (h : m < 256) : lowB m < 256 := Nat.lt_of_le_of_lt Nat.and_le_left h
theorem ndiff_lt {a b : Nat} (h : a < 256) : ndiff a b < 256 := Nat.lt_of_le_of_lt Nat.and_le_left h
theorem ndiff_bit {a b i : Nat} (hi : i < 8) : (ndiff a b).testBit i = (a.testBit i && !b.testBit i) := by
  unfold ndiff
  rw [Nat.testBit_and, Nat.testBit_xor]
  have : (255 : Nat).testBit i = true := by
    have := (List.all_eq_true.1 (show (List.range 8).all (fun i => (255 : Nat).testBit i) = true by kernel_rfl)) i (by simpa using hi)
    exact this
  rw [this]; simp
def lstN (m : Nat) : Nat → List Int
  | 0 => []
  | k + 1 => if m.testBit k = true then lstN m k ++ [(k : Int)] else lstN m k
def lst (m : Nat) : List Int := lstN m 8
theorem lstN_mem {m : Nat} {x : Int} : ∀ {k : Nat}, x ∈ lstN m k ↔ 0 ≤ x ∧ x < k ∧ m.testBit x.toNat = true
  | 0 => by simp [lstN]; omega
  | k + 1 => by
    simp only [lstN]
    split
    · rename_i h
      rw [List.mem_append, lstN_mem, List.mem_singleton]
      constructor
      · rintro (h1 | rfl)
        · exact ⟨h1.1, by omega, h1.2.2⟩
        · exact ⟨by omega, by omega, by simpa using h⟩
      · rintro ⟨h1, h2, h3⟩
        by_cases e : x = k
        · exact .inr e
        · exact .inl ⟨h1, by omega, h3⟩
    · rename_i h
      rw [lstN_mem]
      constructor
      · rintro ⟨h1, h2, h3⟩; exact ⟨h1, by omega, h3⟩
      · rintro ⟨h1, h2, h3⟩
        refine ⟨h1, ?_, h3⟩
        by_cases e : x = k
        · subst e; simp at h3; exact absurd h3 h
        · omega
theorem lst_mem {m : Nat} {x : Int} : x ∈ lst m ↔ 0 ≤ x ∧ x < 8 ∧ m.testBit x.toNat = true := lstN_mem
theorem lstN_le {m : Nat} : ∀ k, (lstN m k).length ≤ k
  | 0 => by simp [lstN]
  | k + 1 => by
    have := lstN_le (m := m) k
    simp only [lstN]
    split <;> simp <;> omega
theorem lstN_rise {m : Nat} : ∀ k, (lstN m k).Pairwise (· < ·)
  | 0 => by simp [lstN]
  | k + 1 => by
    simp only [lstN]
    split
    · rw [List.pairwise_append]
      refine ⟨lstN_rise k, by simp, fun a ha b hb => ?_⟩
      rw [lstN_mem] at ha
      simp only [List.mem_singleton] at hb
      omega
    · exact lstN_rise k
def subsF (o : Nat) : Nat → Nat → List Nat
  | 0, m => [m]
  | f + 1, m => m :: if m = 0 then [] else subsF o f ((m - 1) &&& o)
def subs (o : Nat) : List Nat := subsF o 256 o
theorem subsF_fuel {o : Nat} : ∀ (f g m : Nat), m ≤ f → m ≤ g → subsF o f m = subsF o g m
  | 0, 0, m, _, _ => rfl
  | 0, g + 1, m, h, _ => by
    have : m = 0 := by omega
    subst this; simp [subsF]
  | f + 1, 0, m, _, h => by
    have : m = 0 := by omega
    subst this; simp [subsF]
  | f + 1, g + 1, m, h1, h2 => by
    simp only [subsF]
    by_cases h0 : m = 0
    · simp [h0]
    · have : (m - 1) &&& o ≤ m - 1 := Nat.and_le_left
      rw [if_neg h0, if_neg h0, subsF_fuel f g _ (by omega) (by omega)]
def subsE (o : Nat) : List Nat := ((List.range 256).filter fun x => Nat.beq (Nat.land x o) x).reverse
def leq : List Nat → List Nat → Bool
  | [], [] => true
  | a :: l, b :: l' => Nat.beq a b && leq l l'
  | _, _ => false
theorem leq_eq : ∀ {l l' : List Nat}, leq l l' = true → l = l'
  | [], [], _ => rfl
  | a :: l, b :: l', h => by
    simp only [leq, Bool.and_eq_true] at h
    rw [Nat.eq_of_beq_eq_true h.1, leq_eq h.2]
  | [], _ :: _, h => by cases h
  | _ :: _, [], h => by cases h
def subsC (f o : Nat) : Nat → List Nat := fun m => Nat.rec (motive := fun _ => Nat → List Nat) (fun m => [m]) (fun _ ih m => m :: (match m with | 0 => [] | k + 1 => ih (Nat.land k o))) f m
theorem subsC_is {o : Nat} : ∀ f m, subsC f o m = subsF o f m
  | 0, m => rfl
  | f + 1, m => by
    show m :: (match m with | 0 => [] | k + 1 => subsC f o (Nat.land k o)) = _
    simp only [subsF]
    cases m with
    | zero => simp
    | succ k => simp only [Nat.add_one_sub_one, Nat.succ_ne_zero, if_false]; rw [subsC_is f]; rfl
theorem subs_all : (List.range 256).all (fun o => leq (subsC 256 o o) (subsE o)) = true := by kernel_rfl
theorem subs_eq {o : Nat} (h : o < 256) : subs o = subsE o := by
  have := List.all_eq_true.1 subs_all o (by simpa using h)
  have := leq_eq this
  rw [← this, subsC_is]; rfl
theorem subs_mem {o x : Nat} (h : o < 256) : x ∈ subs o ↔ x &&& o = x := by
  rw [subs_eq h]
  have hb : (Nat.beq (Nat.land x o) x = true) = (x &&& o = x) := propext ⟨Nat.eq_of_beq_eq_true, fun e => by show Nat.beq (x &&& o) x = true; rw [e]; exact Nat.beq_refl x⟩
  simp only [subsE, List.mem_reverse, List.mem_filter, List.mem_range, hb]
  constructor
  · rintro ⟨_, h2⟩; exact h2
  · intro h2
    refine ⟨?_, h2⟩
    have h3 : x &&& o ≤ o := Nat.and_le_right
    rw [h2] at h3; omega
end Go.Am
namespace Go.Am
open Go.RowKit Go.Proofs
attribute [local irreducible] AWP CallS Kt goK CallK stepK evOps SemF SemY Imp
set_option maxRecDepth 4000
set_option linter.unusedSimpArgs false
set_option linter.unusedVariables false
set_option maxHeartbeats 1600000
theorem bin_u8and {P : Program} {t : TypeId} {a b : Int} {K : AV → Prop} : binK P .and t (.int .u8 a) (.int .u8 b) K = K (.int .u8 (u8and a b)) := by simp [binK, binInt, bits, u8and]
theorem bin_u8or {P : Program} {t : TypeId} {a b : Int} {K : AV → Prop} : binK P .or t (.int .u8 a) (.int .u8 b) K = K (.int .u8 (u8or a b)) := by simp [binK, binInt, bits, u8or]
theorem bin_shr {P : Program} {t : TypeId} {a b : Int} {k k' : IntKind} {K : AV → Prop} : binK P .shr t (.int k a) (.int k' b) K = (0 ≤ b ∧ K (.int k (a.fdiv (2 ^ (min b.toNat k.bits))))) := by simp [binK, binInt]
theorem bin_shl {P : Program} {t : TypeId} {a b : Int} {k k' : IntKind} {K : AV → Prop} : binK P .shl t (.int k a) (.int k' b) K = (0 ≤ b ∧ K (.int k (k.wrap (a * 2 ^ (min b.toNat k.bits))))) := by simp [binK, binInt]
theorem bin_sub8 {P : Program} {t : TypeId} {a b : Int} {K : AV → Prop} : binK P .sub t (.int .u8 a) (.int .u8 b) K = K (.int .u8 (IntKind.u8.wrap (a - b))) := by simp [binK, binInt, arith]
theorem un_neg8 {a : Int} {K : AV → Prop} : unK .neg (.int .u8 a) K = K (.int .u8 (IntKind.u8.wrap (0 - a))) := by simp [unK, arith]
attribute [go_sem] bin_u8and bin_u8or bin_shr bin_shl bin_sub8 un_neg8
theorem andn_nat2 {a b : Nat} (ha : a < 256) (hb : b < 256) : andn a b = ((ndiff a b : Nat) : Int) := andn_nat ha hb
theorem inS_c (m k : Nat) (hm : m < 256) (hk : k < 8) : CallS Tryz.prog 99 [.int .u8 m, .int .i64 k] (.bool (m.testBit k)) := by
  have h := shr_nat hm hk
  rw [Int.toNat_natCast] at h
  have hq : m.testBit k = decide (u8and ((m : Int).fdiv (2 ^ (min k IntKind.u8.bits))) 1 = 1) := by
    rw [Bool.eq_iff_iff, decide_eq_true_eq, h]
  rw [hq]
  (refine callS_of_awp (fun w args => Tryz.call99 ..) Tryz.func99 rfl (fun w0 m0 wz => ?_); simp only [Tryz.ntmps99, Tryz.results99, initT, junks, homeC, hallC, slH, slL, townC, sl, List.toList_toArray, List.cons_append, List.nil_append, List.length_cons, List.length_nil, Nat.reduceAdd, Nat.reduceSub])
  (repeat' (first
 | refine awp_seqK ?_
 | refine kt ?_
 | refine And.intro ?_ ?_
 | ((first | refine awp_stp rfl ?_ | refine awp_draw (by kernel_rfl) (by kernel_rfl) ?_ | refine Imp.le2 ?_ | refine go_split (fun _h => ?_) (fun _h => ?_)) <;> try simp (maxSteps := 4000000) only [go_sem, seval])
 | intro _h
 | refine awp_block ?_
 | refine awp_scope ?_
 | refine cond_b ?_ ?_
 | (show heapOK _ _ = true; kernel_rfl)
 | (show heapOK2 _ _ = true; kernel_rfl)
 | (omega)))
  all_goals first
 | (exact decide_eq_true ‹_›)
 | (exact decide_eq_false ‹_›)
theorem list_c2 (m : Nat) (hm : m < 256) : CallS Tryz.prog 85 [.int .u8 m] (sl (lst m)) := by
  (refine callS_of_awp (fun w args => Tryz.call85 ..) Tryz.func85 rfl (fun w0 m0 wz => ?_); simp only [Tryz.ntmps85, Tryz.results85, initT, junks, homeC, hallC, slH, slL, townC, sl, List.toList_toArray, List.cons_append, List.nil_append, List.length_cons, List.length_nil, Nat.reduceAdd, Nat.reduceSub])
  (repeat' (first
 | refine awp_seqK ?_
 | refine kt ?_
 | refine And.intro ?_ ?_
 | ((first | refine awp_stp rfl ?_ | refine awp_draw (by kernel_rfl) (by kernel_rfl) ?_ | refine Imp.le2 ?_ | refine go_split (fun _h => ?_) (fun _h => ?_)) <;> try simp (maxSteps := 4000000) only [go_sem, seval])
 | intro _h
 | refine awp_block ?_
 | refine awp_scope ?_
 | refine cond_b ?_ ?_
 | (show heapOK _ _ = true; kernel_rfl)
 | (show heapOK2 _ _ = true; kernel_rfl)
 | (omega)))
  (refine awp_adT 2 3 1 rfl ?_; simp only [adT, lset, hset, List.length_cons, List.length_nil, Nat.reduceAdd])
  refine awp_loopN 8 (fun k => ⟨mkT 16 [(0, .int .u8 m), (2, .osl 0 (lstN m k).length 0 (lstN m k).length), (4, .int .i64 k)], [some (.cells 3 1 (lstN m k).length (ints (lstN m k)))], []⟩) (.le2 ?_) ?_
  · simp only [lstN]; simp (maxSteps := 4000000) only [go_sem, seval]
  · intro k hk
    have hle := lstN_le (m := m) k
    rcases Nat.lt_or_eq_of_le hk with hk1 | hk1
    · have hin := inS_c m k hm hk1
      cases hb : m.testBit k with
      | true =>
        have e : lstN m (k + 1) = lstN m k ++ [(k : Int)] := by simp [lstN, hb]
        rw [hb] at hin
        rw [e]
        generalize lstN m k = L at *
        simp (maxSteps := 4000000) only [go_sem, seval]
        (repeat' (first
 | ((exfalso; omega))
 | refine awp_seqK ?_
 | refine kt ?_
 | refine And.intro ?_ ?_
 | ((first | refine awp_stp rfl ?_ | refine awp_draw (by kernel_rfl) (by kernel_rfl) ?_ | refine Imp.le2 ?_ | refine callK_of (hin) ?_ | refine go_split (fun _h => ?_) (fun _h => ?_)) <;> try simp (maxSteps := 4000000) only [go_sem, seval])
 | intro _h
 | refine awp_block ?_
 | refine awp_scope ?_
 | refine cond_b ?_ ?_
 | (show heapOK _ _ = true; kernel_rfl)
 | (show heapOK2 _ _ = true; kernel_rfl)
 | (omega)))
        all_goals simp [ints_append, ints_cons, ints_nil]
      | false =>
        have e : lstN m (k + 1) = lstN m k := by simp [lstN, hb]
        rw [hb] at hin
        rw [e]
        generalize lstN m k = L at *
        simp (maxSteps := 4000000) only [go_sem, seval]
        (repeat' (first
 | ((exfalso; omega))
 | refine awp_seqK ?_
 | refine kt ?_
 | refine And.intro ?_ ?_
 | ((first | refine awp_stp rfl ?_ | refine awp_draw (by kernel_rfl) (by kernel_rfl) ?_ | refine Imp.le2 ?_ | refine callK_of (hin) ?_ | refine go_split (fun _h => ?_) (fun _h => ?_)) <;> try simp (maxSteps := 4000000) only [go_sem, seval])
 | intro _h
 | refine awp_block ?_
 | refine awp_scope ?_
 | refine cond_b ?_ ?_
 | (show heapOK _ _ = true; kernel_rfl)
 | (show heapOK2 _ _ = true; kernel_rfl)
 | (omega)))
    · subst hk1
      simp (maxSteps := 4000000) only [go_sem, seval]
      (repeat' (first
 | ((exfalso; omega))
 | refine awp_seqK ?_
 | refine kt ?_
 | refine And.intro ?_ ?_
 | ((first | refine awp_stp rfl ?_ | refine awp_draw (by kernel_rfl) (by kernel_rfl) ?_ | refine Imp.le2 ?_ | refine go_split (fun _h => ?_) (fun _h => ?_)) <;> try simp (maxSteps := 4000000) only [go_sem, seval])
 | intro _h
 | refine awp_block ?_
 | refine awp_scope ?_
 | refine cond_b ?_ ?_
 | (show heapOK _ _ = true; kernel_rfl)
 | (show heapOK2 _ _ = true; kernel_rfl)
 | (omega)))
      all_goals rfl
structure Bus where
  leave : Int
  hall : Int
  homes : List Int
instance : Inhabited Bus := ⟨⟨0, 0, []⟩⟩
def busC (b : Bus) : List AV := [.int .i64 b.leave, .int .i64 b.hall, sl b.homes]
def planC (t : Town) (mb : Nat) : List AV := townC t ++ [sl (worstL t), .map mb]
def leaveL (t : Town) (l : List Int) : Nat → Int
  | 0 => 0
  | k + 1 => max (leaveL t l k) ((worstL t).getD (l.getD k 0).toNat 0)
def pplL (t : Town) (l : List Int) : Nat → Int
  | 0 => 0
  | k + 1 => pplL t l k + (t.homes.getD (l.getD k 0).toNat default).people
def ppl (t : Town) (l : List Int) : Int := pplL t l l.length
def mkBus (t : Town) (m : Nat) (i : Int) : Bus := ⟨leaveL t (lst m) (lst m).length, i, lst m⟩
theorem pplL_bd {t : Town} {l : List Int} (ht : TownOK t) (hl : ∀ x ∈ l, 0 ≤ x ∧ x < t.homes.length) : ∀ k, k ≤ l.length → 0 ≤ pplL t l k ∧ pplL t l k ≤ 200 * k
  | 0, _ => by simp [pplL]
  | k + 1, h => by
    have := pplL_bd ht hl k (by omega)
    have h2 := hl _ (getD_mem (d := 0) (i := k) (by omega))
    have h3 := (ht.home (l.getD k 0).toNat (by omega)).people
    simp only [pplL]
    omega
structure Sta where
  rest : Nat
  r0 : Int
  r1 : Int
  r2 : Int
  deriving DecidableEq
def Sta.room (s : Sta) (i : Nat) : Int := if i = 0 then s.r0 else if i = 1 then s.r1 else s.r2
def stC (s : Sta) : List AV := [.int .u8 s.rest, .int .i64 s.r0, .int .i64 s.r1, .int .i64 s.r2]
def kmC (m : List (Sta × Int)) : List (AV × AV) := gmC (fun s : Sta => AV.agg (stC s)) (AV.int .i64) m
def plB (t : Town) (mb : Nat) : Option ABlk := some (.cells 151 1 0 (planC t mb))
theorem worst_at {t : Town} {x : Int} (h : 0 ≤ x ∧ x < t.homes.length) : (worstL t).getD x.toNat 0 = worstN t (t.homes.getD x.toNat default) := by
  have : x.toNat < t.homes.length := by omega
  simp [worstL, List.getD_eq_getElem?_getD, this]
theorem worstN_bd {t : Town} {i : Nat} (ht : TownOK t) (hi : i < t.homes.length) : 0 ≤ worstN t (t.homes.getD i default) ∧ worstN t (t.homes.getD i default) ≤ 2480 := by
  obtain ⟨hh1, hh2⟩ := ht.homes
  have hc := ht.call
  have hm := mul_bd (a := t.homes.length) (A := 8) (b := t.chi) (B := 60) (by omega) (by omega) (by omega) (by omega)
  obtain ⟨_, hp, hw, _⟩ := ht.home i hi
  unfold worstN
  omega
theorem leaveL_bd {t : Town} {l : List Int} (ht : TownOK t) (hl : ∀ x ∈ l, 0 ≤ x ∧ x < t.homes.length) : ∀ k, k ≤ l.length → 0 ≤ leaveL t l k ∧ leaveL t l k ≤ 2480
  | 0, _ => by simp [leaveL]
  | k + 1, h => by
    have := leaveL_bd ht hl k (by omega)
    have h2 := hl _ (getD_mem (d := 0) (i := k) (by omega))
    have h3 := worstN_bd ht (i := (l.getD k 0).toNat) (by omega)
    simp only [leaveL, worst_at h2]
    omega
theorem lst_in {m n : Nat} (hm : m < 2 ^ n) (hn : n ≤ 8) : ∀ x ∈ lst m, 0 ≤ x ∧ x < n := fun x hx => by
  obtain ⟨h1, h2, h3⟩ := lst_mem.1 hx
  refine ⟨h1, ?_⟩
  by_cases h : x.toNat < n
  · omega
  · have h4 : m.testBit x.toNat = false := Nat.testBit_lt_two_pow (Nat.lt_of_lt_of_le hm (Nat.pow_le_pow_right (by omega) (by omega)))
    rw [h4] at h3; cases h3
theorem al_km {q : Nat → Bool} {m : List (Sta × Int)} : ((kmC m).all fun e => live2 q e.1 && live2 q e.2) = true := by
  simp only [kmC, gmC, List.all_map, List.all_eq_true]
  intro e _; rfl
theorem km_length {m : List (Sta × Int)} : (kmC m).length = m.length := by simp [kmC, gmC]
theorem rb_km {σ : Nat → Nat} {m : List (Sta × Int)} : renB σ (.map (kmC m)) = .map (kmC m) := by
  simp only [renB, kmC, gmC, List.map_map]
  congr 1
theorem rf_km {p : Nat → Prop} {m : List (Sta × Int)} : refsB p (.map (kmC m)) = True := by
  rw [eq_iff_iff, iff_true]
  simp only [refsB, kmC, gmC, List.mem_map]
  rintro _ ⟨e, _, rfl⟩
  simp [refs, refsL, stC]
theorem bl_km {q : Nat → Bool} {m : List (Sta × Int)} : blkLive q (.map (kmC m)) = true := by
  simp only [blkLive, kmC, gmC, List.all_map, List.all_eq_true]
  intro e _; rfl
theorem key_st : KeyE (fun s : Sta => AV.agg (stC s)) := fun a b v es => by
  have e : scalEq (stC b) (stC a) = some (decide (a = b)) := by
    have h8 : ∀ {k : IntKind} {x y : Int} {xs ys : List AV}, scalEq (.int k x :: xs) (.int k y :: ys) = (scalEq xs ys).map (decide (x = y) && ·) := fun {k x y xs ys} => by simp only [scalEq, if_true]
    have h9 : scalEq [] [] = some true := rfl
    simp only [stC, h8, h9, Option.map_some, Bool.and_true, Option.some.injEq]
    rw [Bool.eq_iff_iff]
    simp only [Bool.and_eq_true, decide_eq_true_eq]
    obtain ⟨a0, a1, a2, a3⟩ := a
    obtain ⟨b0, b1, b2, b3⟩ := b
    simp only [Sta.mk.injEq]
    omega
  simp only [mapFind, e]
  by_cases h : a = b
  · simp [h]
  · simp [h]
theorem mup_km {m : List (Sta × Int)} {s : Sta} {v : Int} {f : List (AV × AV) → Prop} : mupK (kmC m) (.agg (stC s)) (.int .i64 v) f = f (kmC (gmPut m s v)) := mup_g (eV := AV.int .i64) key_st
theorem mget_ks {m : List (Sta × Int)} {k : Sta} {v : Int} {z : AV} {f : AV → Bool → Prop} (h : gmGet m k = some v) : mgetK (kmC m) (.agg (stC k)) z f = f (.int .i64 v) true := mget_gs (eV := AV.int .i64) key_st h
theorem mget_kn {m : List (Sta × Int)} {k : Sta} {z : AV} {f : AV → Bool → Prop} (h : gmGet m k = none) : mgetK (kmC m) (.agg (stC k)) z f = f z false := mget_gn (eV := AV.int .i64) key_st h
attribute [go_sem] al_km km_length rb_km rf_km bl_km
theorem people_c (t : Town) (b : Bus) (K : List (Sta × Int)) (ht : TownOK t) (hl : ∀ x ∈ b.homes, 0 ≤ x ∧ x < t.homes.length) (hn : b.homes.length ≤ 1000000) :
    SemF Tryz.prog 70 [.ptr 0 0 0, .agg (busC b)] [plB t 1, some (.map (kmC K))] (.int .i64 (ppl t b.homes)) [plB t 1, some (.map (kmC K))] := by
  simp only [plB, planC, busC, sl, townC, slH, slL]
  (refine semF_of_awp (ys := [.int .i64 (ppl t b.homes)]) (fun w args => Tryz.call70 ..) Tryz.func70 rfl (fun w0 m0 wz => ?_); simp only [Tryz.ntmps70, Tryz.results70, initT, junks, homeC, hallC, slH, slL, townC, sl, List.toList_toArray, List.cons_append, List.nil_append, List.length_cons, List.length_nil, Nat.reduceAdd, Nat.reduceSub])
  (repeat' (first
 | refine awp_seqK ?_
 | refine kt ?_
 | refine And.intro ?_ ?_
 | ((first | refine awp_stp rfl ?_ | refine awp_draw (by kernel_rfl) (by kernel_rfl) ?_ | refine Imp.le2 ?_ | refine go_split (fun _h => ?_) (fun _h => ?_)) <;> try simp (maxSteps := 4000000) only [go_sem, seval])
 | intro _h
 | refine awp_block ?_
 | refine awp_scope ?_
 | refine cond_b ?_ ?_
 | (show heapOK _ _ = true; kernel_rfl)
 | (show heapOK2 _ _ = true; kernel_rfl)
 | (omega)))
  refine awp_loopN b.homes.length (fun k => ⟨mkT 27 [(0, .ptr 0 0 0), (3, .ptr 2 0 0), (4, .int .i64 (pplL t b.homes k)), (8, sl b.homes), (9, .int .i64 b.homes.length), (10, .int .i64 k)], [plB t 1, some (.map (kmC K)), some (.cells 87 1 0 (busC b))], []⟩) (.le2 ?_) ?_
  · simp only [plB, planC, busC, sl, townC, slH, slL]; simp (maxSteps := 4000000) only [go_sem, seval]
    first | rfl | exact ⟨rfl, rfl⟩
  · intro k hk
    have hbd := pplL_bd ht hl k hk
    rcases Nat.lt_or_eq_of_le hk with hk1 | hk1
    · have h2 := hl _ (getD_mem (d := 0) hk1)
      have h3 := (ht.home (b.homes.getD k 0).toNat (by omega)).people
      have e : pplL t b.homes (k + 1) = pplL t b.homes k + (t.homes.getD (b.homes.getD k 0).toNat default).people := rfl
      rw [e]
      simp only [plB, planC, busC, sl, townC, slH, slL]; simp (maxSteps := 4000000) only [go_sem, seval]
      (repeat' (first
 | ((exfalso; omega))
 | refine awp_seqK ?_
 | refine kt ?_
 | refine And.intro ?_ ?_
 | ((first | refine awp_stp rfl ?_ | refine awp_draw (by kernel_rfl) (by kernel_rfl) ?_ | refine Imp.le2 ?_ | refine go_split (fun _h => ?_) (fun _h => ?_)) <;> try simp (maxSteps := 4000000) only [go_sem, seval])
 | intro _h
 | refine awp_block ?_
 | refine awp_scope ?_
 | refine cond_b ?_ ?_
 | (show heapOK _ _ = true; kernel_rfl)
 | (show heapOK2 _ _ = true; kernel_rfl)
 | (omega)))
    · subst hk1
      simp only [plB, planC, busC, sl, townC, slH, slL]; simp (maxSteps := 4000000) only [go_sem, seval]
      (repeat' (first
 | ((exfalso; omega))
 | refine awp_seqK ?_
 | refine kt ?_
 | refine And.intro ?_ ?_
 | ((first | refine awp_stp rfl ?_ | refine awp_draw (by kernel_rfl) (by kernel_rfl) ?_ | refine Imp.le2 ?_ | refine go_split (fun _h => ?_) (fun _h => ?_)) <;> try simp (maxSteps := 4000000) only [go_sem, seval])
 | intro _h
 | refine awp_block ?_
 | refine awp_scope ?_
 | refine cond_b ?_ ?_
 | (show heapOK _ _ = true; kernel_rfl)
 | (show heapOK2 _ _ = true; kernel_rfl)
 | (omega)))
      all_goals rfl
theorem bus_c (t : Town) (m : Nat) (i : Int) (K : List (Sta × Int)) (ht : TownOK t) (hm : m < 2 ^ t.homes.length) :
    SemF Tryz.prog 69 [.ptr 0 0 0, .int .u8 m, .int .i64 i] [plB t 1, some (.map (kmC K))] (.agg (busC (mkBus t m i))) [plB t 1, some (.map (kmC K))] := by
  have hln := ht.homes
  have hm8 : m < 256 := Nat.lt_of_lt_of_le hm (show 2 ^ t.homes.length ≤ 2 ^ 8 from Nat.pow_le_pow_right (by omega) (by omega))
  have hli := list_c2 m hm8
  have hin := lst_in hm (by omega)
  have hwl := worstL_length (t := t)
  have hl8 : (lst m).length ≤ 8 := lstN_le 8
  have el : leaveL t (lst m) (lst m).length = (mkBus t m i).leave := rfl
  simp only [sl] at hli
  simp only [plB, planC, busC, sl, townC, slH, slL]
  (refine semF_of_awp (ys := [.agg (busC (mkBus t m i))]) (fun w args => Tryz.call69 ..) Tryz.func69 rfl (fun w0 m0 wz => ?_); simp only [Tryz.ntmps69, Tryz.results69, initT, junks, homeC, hallC, slH, slL, townC, sl, List.toList_toArray, List.cons_append, List.nil_append, List.length_cons, List.length_nil, Nat.reduceAdd, Nat.reduceSub])
  (repeat' (first
 | refine awp_seqK ?_
 | refine kt ?_
 | refine And.intro ?_ ?_
 | ((first | refine awp_stp rfl ?_ | refine awp_draw (by kernel_rfl) (by kernel_rfl) ?_ | refine Imp.le2 ?_ | refine callK_of (hli) ?_ | refine go_split (fun _h => ?_) (fun _h => ?_)) <;> try simp (maxSteps := 4000000) only [go_sem, seval])
 | intro _h
 | refine awp_block ?_
 | refine awp_scope ?_
 | refine cond_b ?_ ?_
 | (show heapOK _ _ = true; kernel_rfl)
 | (show heapOK2 _ _ = true; kernel_rfl)
 | (omega)))
  refine awp_loopN (lst m).length (fun k => ⟨mkT 35 [(0, .ptr 0 0 0), (1, .int .u8 m), (2, .int .i64 i), (6, .ptr 2 0 0), (7, .ptr 3 0 0), (15, sl (lst m)), (16, .int .i64 (lst m).length), (17, .int .i64 k)], [plB t 1, some (.map (kmC K)), some (.cells 87 1 0 [.int .i64 0, .int .i64 0, .nils]), some (.cells 87 1 0 [.int .i64 (leaveL t (lst m) k), .int .i64 i, sl (lst m)])], []⟩) (.le2 ?_) ?_
  · simp only [plB, planC, busC, sl, townC, slH, slL]; simp (maxSteps := 4000000) only [go_sem, seval]
    first | rfl | exact ⟨rfl, rfl⟩
  · intro k hk
    have hbd := leaveL_bd ht hin k hk
    rcases Nat.lt_or_eq_of_le hk with hk1 | hk1
    · have h2 := hin _ (getD_mem (d := 0) hk1)
      have h3 := worstN_bd ht (i := ((lst m).getD k 0).toNat) (by omega)
      have e : leaveL t (lst m) (k + 1) = max (leaveL t (lst m) k) ((worstL t).getD ((lst m).getD k 0).toNat 0) := rfl
      rw [e]
      simp only [plB, planC, busC, sl, townC, slH, slL]; simp (maxSteps := 4000000) only [go_sem, seval]
      (repeat' (first
 | ((exfalso; omega))
 | refine awp_seqK ?_
 | refine kt ?_
 | refine And.intro ?_ ?_
 | ((first | refine awp_stp rfl ?_ | refine awp_draw (by kernel_rfl) (by kernel_rfl) ?_ | refine Imp.le2 ?_ | refine callK_of (latest_c _ _ _) ?_ | refine go_split (fun _h => ?_) (fun _h => ?_)) <;> try simp (maxSteps := 4000000) only [go_sem, seval])
 | intro _h
 | refine awp_block ?_
 | refine awp_scope ?_
 | refine cond_b ?_ ?_
 | (show heapOK _ _ = true; kernel_rfl)
 | (show heapOK2 _ _ = true; kernel_rfl)
 | (omega)))
      all_goals trace_state
    · subst hk1
      simp only [plB, planC, busC, sl, townC, slH, slL]; simp (maxSteps := 4000000) only [go_sem, seval]
      (repeat' (first
 | ((exfalso; omega))
 | refine awp_seqK ?_
 | refine kt ?_
 | refine And.intro ?_ ?_
 | ((first | refine awp_stp rfl ?_ | refine awp_draw (by kernel_rfl) (by kernel_rfl) ?_ | refine Imp.le2 ?_ | refine go_split (fun _h => ?_) (fun _h => ?_)) <;> try simp (maxSteps := 4000000) only [go_sem, seval])
 | intro _h
 | refine awp_block ?_
 | refine awp_scope ?_
 | refine cond_b ?_ ?_
 | (show heapOK _ _ = true; kernel_rfl)
 | (show heapOK2 _ _ = true; kernel_rfl)
 | (omega)))
      all_goals rfl
end Go.Am
namespace Go.Am
open Go.RowKit Go.Proofs
attribute [local irreducible] AWP CallS Kt goK CallK stepK evOps SemF SemY Imp
set_option maxRecDepth 4000
set_option linter.unusedSimpArgs false
set_option linter.unusedVariables false
set_option maxHeartbeats 1600000
theorem allA_she (t : Town) (b : Bus) (K : List (Sta × Int)) (x : Int) (q : Bool) (hq : SemF Tryz.prog 103 ([.int .i64 x] ++ [.ptr 2 0 0, .ptr 3 0 0]) [plB t 1, some (.map (kmC K)), some (.cells 116 1 0 [.ptr 0 0 0]), some (.cells 87 1 0 (busC b))] (.bool q) [plB t 1, some (.map (kmC K)), some (.cells 116 1 0 [.ptr 0 0 0]), some (.cells 87 1 0 (busC b))]) : SemF Tryz.prog 109 [.int .i64 x, .ptr 4 0 0] [plB t 1, some (.map (kmC K)), some (.cells 116 1 0 [.ptr 0 0 0]), some (.cells 87 1 0 (busC b)), some (.cells 99 1 0 [.fn (.func 103) [] [.ptr 2 0 0, .ptr 3 0 0]])] (.bool (!q)) [plB t 1, some (.map (kmC K)), some (.cells 116 1 0 [.ptr 0 0 0]), some (.cells 87 1 0 (busC b)), some (.cells 99 1 0 [.fn (.func 103) [] [.ptr 2 0 0, .ptr 3 0 0]])] := by
  simp only [List.cons_append, List.nil_append] at hq
  simp only [plB, planC, busC, sl, townC, slH, slL] at hq
  simp only [plB, planC, busC, sl, townC, slH, slL]
  (refine semF_of_awp (ys := [.bool (!q)]) (fun w args => Tryz.call109 ..) Tryz.func109 rfl (fun w0 m0 wz => ?_); simp only [Tryz.ntmps109, Tryz.results109, initT, junks, homeC, hallC, slH, slL, townC, sl, List.toList_toArray, List.cons_append, List.nil_append, List.length_cons, List.length_nil, Nat.reduceAdd, Nat.reduceSub])
  (repeat' (first
 | (refine awp_ownN 2 rfl ?_; simp (maxSteps := 4000000) only [go_sem, seval, List.take_succ_cons, List.take_zero]; (repeat refine And.intro (by omega) ?_); refine own_go (hq) [0, 1, 2, 3] rfl ?_ ?_ rfl ?_ <;> try simp (maxSteps := 4000000) only [go_sem, seval, Nat.lt_irrefl] <;> try decide)
 | refine awp_seqK ?_
 | refine kt ?_
 | refine And.intro ?_ ?_
 | ((first | refine awp_stp rfl ?_ | refine awp_draw (by kernel_rfl) (by kernel_rfl) ?_ | refine Imp.le2 ?_ | refine go_split (fun _h => ?_) (fun _h => ?_)) <;> try simp (maxSteps := 4000000) only [go_sem, seval])
 | intro _h
 | refine awp_block ?_
 | refine awp_scope ?_
 | refine cond_b ?_ ?_
 | (show heapOK _ _ = true; kernel_rfl)
 | (show heapOK2 _ _ = true; kernel_rfl)
 | (omega))) <;> simp [*]
theorem idxA_she (t : Town) (b : Bus) (K : List (Sta × Int)) (l : List Int) (q : Int → Bool) (hl : l.length ≤ 1000000) (hq : ∀ i, i < l.length → SemF Tryz.prog 109 [.int .i64 (l.getD i 0), .ptr 4 0 0] [plB t 1, some (.map (kmC K)), some (.cells 116 1 0 [.ptr 0 0 0]), some (.cells 87 1 0 (busC b)), some (.cells 99 1 0 [.fn (.func 103) [] [.ptr 2 0 0, .ptr 3 0 0]])] (.bool (q (l.getD i 0))) [plB t 1, some (.map (kmC K)), some (.cells 116 1 0 [.ptr 0 0 0]), some (.cells 87 1 0 (busC b)), some (.cells 99 1 0 [.fn (.func 103) [] [.ptr 2 0 0, .ptr 3 0 0]])]) :
    SemF Tryz.prog 106 [sl l, .fn (.func 109) [] [.ptr 4 0 0]] [plB t 1, some (.map (kmC K)), some (.cells 116 1 0 [.ptr 0 0 0]), some (.cells 87 1 0 (busC b)), some (.cells 99 1 0 [.fn (.func 103) [] [.ptr 2 0 0, .ptr 3 0 0]])] (.int .i64 (idxOf q l)) [plB t 1, some (.map (kmC K)), some (.cells 116 1 0 [.ptr 0 0 0]), some (.cells 87 1 0 (busC b)), some (.cells 99 1 0 [.fn (.func 103) [] [.ptr 2 0 0, .ptr 3 0 0]])] := by
  simp only [plB, planC, busC, sl, townC, slH, slL] at hq
  simp only [plB, planC, busC, sl, townC, slH, slL]
  (refine semF_of_awp (ys := [.int .i64 (idxOf q l)]) (fun w args => Tryz.call106 ..) Tryz.func106 rfl (fun w0 m0 wz => ?_); simp only [Tryz.ntmps106, Tryz.results106, initT, junks, homeC, hallC, slH, slL, townC, sl, List.toList_toArray, List.cons_append, List.nil_append, List.length_cons, List.length_nil, Nat.reduceAdd, Nat.reduceSub])
  (repeat' (first
 | refine awp_seqK ?_
 | refine kt ?_
 | refine And.intro ?_ ?_
 | ((first | refine awp_stp rfl ?_ | refine awp_draw (by kernel_rfl) (by kernel_rfl) ?_ | refine Imp.le2 ?_ | refine go_split (fun _h => ?_) (fun _h => ?_)) <;> try simp (maxSteps := 4000000) only [go_sem, seval])
 | intro _h
 | refine awp_block ?_
 | refine awp_scope ?_
 | refine cond_b ?_ ?_
 | (show heapOK _ _ = true; kernel_rfl)
 | (show heapOK2 _ _ = true; kernel_rfl)
 | (omega)))
  refine awp_loopJ (fun i : Nat => i ≤ l.length ∧ ∀ j, j < i → q (l.getD j 0) = false) (fun i => ⟨mkT 19 [(0, sl l), (1, .fn (.func 109) [] [.ptr 4 0 0]), (6, sl l), (7, .int .i64 l.length), (8, .int .i64 i)], [plB t 1, some (.map (kmC K)), some (.cells 116 1 0 [.ptr 0 0 0]), some (.cells 87 1 0 (busC b)), some (.cells 99 1 0 [.fn (.func 103) [] [.ptr 2 0 0, .ptr 3 0 0]])], []⟩) (fun i => l.length - i) 0 ⟨Nat.zero_le _, by simp⟩ (.le2 ?_) ?_
  · simp only [plB, planC, busC, sl, townC, slH, slL]; simp (maxSteps := 4000000) only [go_sem, seval]
  · rintro i ⟨hi, hj⟩
    simp only [plB, planC, busC, sl, townC, slH, slL]; simp (maxSteps := 4000000) only [go_sem, seval]
    have hqi := hq i
    (repeat' (first
 | (refine awp_ownN 5 rfl ?_; simp (maxSteps := 4000000) only [go_sem, seval, List.take_succ_cons, List.take_zero]; (repeat refine And.intro (by omega) ?_); refine own_go (hqi (by omega)) [0, 1, 2, 3, 4] rfl ?_ ?_ rfl ?_ <;> try simp (maxSteps := 4000000) only [go_sem, seval, Nat.lt_irrefl] <;> try decide)
 | refine awp_seqK ?_
 | refine kt ?_
 | refine And.intro ?_ ?_
 | ((first | refine awp_stp rfl ?_ | refine awp_draw (by kernel_rfl) (by kernel_rfl) ?_ | refine Imp.le2 ?_ | refine go_split (fun _h => ?_) (fun _h => ?_)) <;> try simp (maxSteps := 4000000) only [go_sem, seval])
 | intro _h
 | refine awp_block ?_
 | refine awp_scope ?_
 | refine cond_b ?_ ?_
 | (show heapOK _ _ = true; kernel_rfl)
 | (show heapOK2 _ _ = true; kernel_rfl)
 | (omega)))
    · exact idxOf_some (by omega) ‹_› hj
    · refine ⟨i + 1, ⟨by omega, fun j hji => ?_⟩, by omega, .le2 ?_⟩
      · rcases Nat.lt_succ_iff_lt_or_eq.1 hji with h | rfl
        · exact hj j h
        · assumption
      · simp (maxSteps := 4000000) only [go_sem, seval]
        omega
    · exact idxOf_none (d := 0) (fun j hjl => hj j (by omega))
theorem hasA_she (t : Town) (b : Bus) (K : List (Sta × Int)) (l : List Int) (q : Int → Bool) (hl : l.length ≤ 1000000) (hq : ∀ i, i < l.length → SemF Tryz.prog 109 [.int .i64 (l.getD i 0), .ptr 4 0 0] [plB t 1, some (.map (kmC K)), some (.cells 116 1 0 [.ptr 0 0 0]), some (.cells 87 1 0 (busC b)), some (.cells 99 1 0 [.fn (.func 103) [] [.ptr 2 0 0, .ptr 3 0 0]])] (.bool (q (l.getD i 0))) [plB t 1, some (.map (kmC K)), some (.cells 116 1 0 [.ptr 0 0 0]), some (.cells 87 1 0 (busC b)), some (.cells 99 1 0 [.fn (.func 103) [] [.ptr 2 0 0, .ptr 3 0 0]])]) :
    SemF Tryz.prog 92 [sl l, .fn (.func 109) [] [.ptr 4 0 0]] [plB t 1, some (.map (kmC K)), some (.cells 116 1 0 [.ptr 0 0 0]), some (.cells 87 1 0 (busC b)), some (.cells 99 1 0 [.fn (.func 103) [] [.ptr 2 0 0, .ptr 3 0 0]])] (.bool (l.any q)) [plB t 1, some (.map (kmC K)), some (.cells 116 1 0 [.ptr 0 0 0]), some (.cells 87 1 0 (busC b)), some (.cells 99 1 0 [.fn (.func 103) [] [.ptr 2 0 0, .ptr 3 0 0]])] := by
  have h := idxA_she t b K l q hl hq
  rw [← idxOf_ge]
  simp only [plB, planC, busC, sl, townC, slH, slL] at h
  simp only [plB, planC, busC, sl, townC, slH, slL]
  (refine semF_of_awp (ys := [.bool (decide (0 ≤ idxOf q l))]) (fun w args => Tryz.call92 ..) Tryz.func92 rfl (fun w0 m0 wz => ?_); simp only [Tryz.ntmps92, Tryz.results92, initT, junks, homeC, hallC, slH, slL, townC, sl, List.toList_toArray, List.cons_append, List.nil_append, List.length_cons, List.length_nil, Nat.reduceAdd, Nat.reduceSub])
  (repeat' (first
 | (refine awp_ownN 2 rfl ?_; simp (maxSteps := 4000000) only [go_sem, seval, List.take_succ_cons, List.take_zero]; (repeat refine And.intro (by omega) ?_); refine own_go (h) [0, 1, 2, 3, 4] rfl ?_ ?_ rfl ?_ <;> try simp (maxSteps := 4000000) only [go_sem, seval, Nat.lt_irrefl] <;> try decide)
 | refine awp_seqK ?_
 | refine kt ?_
 | refine And.intro ?_ ?_
 | ((first | refine awp_stp rfl ?_ | refine awp_draw (by kernel_rfl) (by kernel_rfl) ?_ | refine Imp.le2 ?_ | refine go_split (fun _h => ?_) (fun _h => ?_)) <;> try simp (maxSteps := 4000000) only [go_sem, seval])
 | intro _h
 | refine awp_block ?_
 | refine awp_scope ?_
 | refine cond_b ?_ ?_
 | (show heapOK _ _ = true; kernel_rfl)
 | (show heapOK2 _ _ = true; kernel_rfl)
 | (omega))) <;> simp [*]
theorem allB_she (t : Town) (b : Bus) (K : List (Sta × Int)) (l : List Int) (q : Int → Bool) (hl : l.length ≤ 1000000) (hq : ∀ i, i < l.length → SemF Tryz.prog 103 ([.int .i64 (l.getD i 0)] ++ [.ptr 2 0 0, .ptr 3 0 0]) [plB t 1, some (.map (kmC K)), some (.cells 116 1 0 [.ptr 0 0 0]), some (.cells 87 1 0 (busC b))] (.bool (q (l.getD i 0))) [plB t 1, some (.map (kmC K)), some (.cells 116 1 0 [.ptr 0 0 0]), some (.cells 87 1 0 (busC b))]) :
    SemF Tryz.prog 102 [sl l, .fn (.func 103) [] [.ptr 2 0 0, .ptr 3 0 0]] [plB t 1, some (.map (kmC K)), some (.cells 116 1 0 [.ptr 0 0 0]), some (.cells 87 1 0 (busC b))] (.bool (l.all q)) [plB t 1, some (.map (kmC K)), some (.cells 116 1 0 [.ptr 0 0 0]), some (.cells 87 1 0 (busC b))] := by
  have hany : l.all q = !l.any (fun x => !q x) := by simp [List.all_eq_not_any_not]
  rw [hany]
  have h := hasA_she t b K l (fun x => !q x) hl (fun i hi => allA_she t b K (l.getD i 0) (q (l.getD i 0)) (hq i hi))
  simp only [plB, planC, busC, sl, townC, slH, slL] at h
  simp only [plB, planC, busC, sl, townC, slH, slL]
  (refine semF_of_awp (ys := [.bool (!l.any (fun x => !q x))]) (fun w args => Tryz.call102 ..) Tryz.func102 rfl (fun w0 m0 wz => ?_); simp only [Tryz.ntmps102, Tryz.results102, initT, junks, homeC, hallC, slH, slL, townC, sl, List.toList_toArray, List.cons_append, List.nil_append, List.length_cons, List.length_nil, Nat.reduceAdd, Nat.reduceSub])
  (repeat' (first
 | (refine awp_ownN 2 rfl ?_; simp (maxSteps := 4000000) only [go_sem, seval, List.take_succ_cons, List.take_zero]; (repeat refine And.intro (by omega) ?_); refine own_go (h) [0, 1, 2, 3, 4] rfl ?_ ?_ rfl ?_ <;> try simp (maxSteps := 4000000) only [go_sem, seval, Nat.lt_irrefl] <;> try decide)
 | refine awp_seqK ?_
 | refine kt ?_
 | refine And.intro ?_ ?_
 | ((first | refine awp_stp rfl ?_ | refine awp_draw (by kernel_rfl) (by kernel_rfl) ?_ | refine Imp.le2 ?_ | refine go_split (fun _h => ?_) (fun _h => ?_)) <;> try simp (maxSteps := 4000000) only [go_sem, seval])
 | intro _h
 | refine awp_block ?_
 | refine awp_scope ?_
 | refine cond_b ?_ ?_
 | (show heapOK _ _ = true; kernel_rfl)
 | (show heapOK2 _ _ = true; kernel_rfl)
 | (omega))) <;> simp only [*, Bool.not_true, Bool.not_false]
theorem allA_tim (t : Town) (b : Bus) (K : List (Sta × Int)) (x : Int) (q : Bool) (hq : SemF Tryz.prog 105 ([.int .i64 x] ++ [.ptr 3 0 0, .ptr 2 0 0]) [plB t 1, some (.map (kmC K)), some (.cells 116 1 0 [.ptr 0 0 0]), some (.cells 87 1 0 (busC b))] (.bool q) [plB t 1, some (.map (kmC K)), some (.cells 116 1 0 [.ptr 0 0 0]), some (.cells 87 1 0 (busC b))]) : SemF Tryz.prog 109 [.int .i64 x, .ptr 4 0 0] [plB t 1, some (.map (kmC K)), some (.cells 116 1 0 [.ptr 0 0 0]), some (.cells 87 1 0 (busC b)), some (.cells 99 1 0 [.fn (.func 105) [] [.ptr 3 0 0, .ptr 2 0 0]])] (.bool (!q)) [plB t 1, some (.map (kmC K)), some (.cells 116 1 0 [.ptr 0 0 0]), some (.cells 87 1 0 (busC b)), some (.cells 99 1 0 [.fn (.func 105) [] [.ptr 3 0 0, .ptr 2 0 0]])] := by
  simp only [List.cons_append, List.nil_append] at hq
  simp only [plB, planC, busC, sl, townC, slH, slL] at hq
  simp only [plB, planC, busC, sl, townC, slH, slL]
  (refine semF_of_awp (ys := [.bool (!q)]) (fun w args => Tryz.call109 ..) Tryz.func109 rfl (fun w0 m0 wz => ?_); simp only [Tryz.ntmps109, Tryz.results109, initT, junks, homeC, hallC, slH, slL, townC, sl, List.toList_toArray, List.cons_append, List.nil_append, List.length_cons, List.length_nil, Nat.reduceAdd, Nat.reduceSub])
  (repeat' (first
 | (refine awp_ownN 2 rfl ?_; simp (maxSteps := 4000000) only [go_sem, seval, List.take_succ_cons, List.take_zero]; (repeat refine And.intro (by omega) ?_); refine own_go (hq) [0, 1, 2, 3] rfl ?_ ?_ rfl ?_ <;> try simp (maxSteps := 4000000) only [go_sem, seval, Nat.lt_irrefl] <;> try decide)
 | refine awp_seqK ?_
 | refine kt ?_
 | refine And.intro ?_ ?_
 | ((first | refine awp_stp rfl ?_ | refine awp_draw (by kernel_rfl) (by kernel_rfl) ?_ | refine Imp.le2 ?_ | refine go_split (fun _h => ?_) (fun _h => ?_)) <;> try simp (maxSteps := 4000000) only [go_sem, seval])
 | intro _h
 | refine awp_block ?_
 | refine awp_scope ?_
 | refine cond_b ?_ ?_
 | (show heapOK _ _ = true; kernel_rfl)
 | (show heapOK2 _ _ = true; kernel_rfl)
 | (omega))) <;> simp [*]
theorem idxA_tim (t : Town) (b : Bus) (K : List (Sta × Int)) (l : List Int) (q : Int → Bool) (hl : l.length ≤ 1000000) (hq : ∀ i, i < l.length → SemF Tryz.prog 109 [.int .i64 (l.getD i 0), .ptr 4 0 0] [plB t 1, some (.map (kmC K)), some (.cells 116 1 0 [.ptr 0 0 0]), some (.cells 87 1 0 (busC b)), some (.cells 99 1 0 [.fn (.func 105) [] [.ptr 3 0 0, .ptr 2 0 0]])] (.bool (q (l.getD i 0))) [plB t 1, some (.map (kmC K)), some (.cells 116 1 0 [.ptr 0 0 0]), some (.cells 87 1 0 (busC b)), some (.cells 99 1 0 [.fn (.func 105) [] [.ptr 3 0 0, .ptr 2 0 0]])]) :
    SemF Tryz.prog 106 [sl l, .fn (.func 109) [] [.ptr 4 0 0]] [plB t 1, some (.map (kmC K)), some (.cells 116 1 0 [.ptr 0 0 0]), some (.cells 87 1 0 (busC b)), some (.cells 99 1 0 [.fn (.func 105) [] [.ptr 3 0 0, .ptr 2 0 0]])] (.int .i64 (idxOf q l)) [plB t 1, some (.map (kmC K)), some (.cells 116 1 0 [.ptr 0 0 0]), some (.cells 87 1 0 (busC b)), some (.cells 99 1 0 [.fn (.func 105) [] [.ptr 3 0 0, .ptr 2 0 0]])] := by
  simp only [plB, planC, busC, sl, townC, slH, slL] at hq
  simp only [plB, planC, busC, sl, townC, slH, slL]
  (refine semF_of_awp (ys := [.int .i64 (idxOf q l)]) (fun w args => Tryz.call106 ..) Tryz.func106 rfl (fun w0 m0 wz => ?_); simp only [Tryz.ntmps106, Tryz.results106, initT, junks, homeC, hallC, slH, slL, townC, sl, List.toList_toArray, List.cons_append, List.nil_append, List.length_cons, List.length_nil, Nat.reduceAdd, Nat.reduceSub])
  (repeat' (first
 | refine awp_seqK ?_
 | refine kt ?_
 | refine And.intro ?_ ?_
 | ((first | refine awp_stp rfl ?_ | refine awp_draw (by kernel_rfl) (by kernel_rfl) ?_ | refine Imp.le2 ?_ | refine go_split (fun _h => ?_) (fun _h => ?_)) <;> try simp (maxSteps := 4000000) only [go_sem, seval])
 | intro _h
 | refine awp_block ?_
 | refine awp_scope ?_
 | refine cond_b ?_ ?_
 | (show heapOK _ _ = true; kernel_rfl)
 | (show heapOK2 _ _ = true; kernel_rfl)
 | (omega)))
  refine awp_loopJ (fun i : Nat => i ≤ l.length ∧ ∀ j, j < i → q (l.getD j 0) = false) (fun i => ⟨mkT 19 [(0, sl l), (1, .fn (.func 109) [] [.ptr 4 0 0]), (6, sl l), (7, .int .i64 l.length), (8, .int .i64 i)], [plB t 1, some (.map (kmC K)), some (.cells 116 1 0 [.ptr 0 0 0]), some (.cells 87 1 0 (busC b)), some (.cells 99 1 0 [.fn (.func 105) [] [.ptr 3 0 0, .ptr 2 0 0]])], []⟩) (fun i => l.length - i) 0 ⟨Nat.zero_le _, by simp⟩ (.le2 ?_) ?_
  · simp only [plB, planC, busC, sl, townC, slH, slL]; simp (maxSteps := 4000000) only [go_sem, seval]
  · rintro i ⟨hi, hj⟩
    simp only [plB, planC, busC, sl, townC, slH, slL]; simp (maxSteps := 4000000) only [go_sem, seval]
    have hqi := hq i
    (repeat' (first
 | (refine awp_ownN 5 rfl ?_; simp (maxSteps := 4000000) only [go_sem, seval, List.take_succ_cons, List.take_zero]; (repeat refine And.intro (by omega) ?_); refine own_go (hqi (by omega)) [0, 1, 2, 3, 4] rfl ?_ ?_ rfl ?_ <;> try simp (maxSteps := 4000000) only [go_sem, seval, Nat.lt_irrefl] <;> try decide)
 | refine awp_seqK ?_
 | refine kt ?_
 | refine And.intro ?_ ?_
 | ((first | refine awp_stp rfl ?_ | refine awp_draw (by kernel_rfl) (by kernel_rfl) ?_ | refine Imp.le2 ?_ | refine go_split (fun _h => ?_) (fun _h => ?_)) <;> try simp (maxSteps := 4000000) only [go_sem, seval])
 | intro _h
 | refine awp_block ?_
 | refine awp_scope ?_
 | refine cond_b ?_ ?_
 | (show heapOK _ _ = true; kernel_rfl)
 | (show heapOK2 _ _ = true; kernel_rfl)
 | (omega)))
    · exact idxOf_some (by omega) ‹_› hj
    · refine ⟨i + 1, ⟨by omega, fun j hji => ?_⟩, by omega, .le2 ?_⟩
      · rcases Nat.lt_succ_iff_lt_or_eq.1 hji with h | rfl
        · exact hj j h
        · assumption
      · simp (maxSteps := 4000000) only [go_sem, seval]
        omega
    · exact idxOf_none (d := 0) (fun j hjl => hj j (by omega))
theorem hasA_tim (t : Town) (b : Bus) (K : List (Sta × Int)) (l : List Int) (q : Int → Bool) (hl : l.length ≤ 1000000) (hq : ∀ i, i < l.length → SemF Tryz.prog 109 [.int .i64 (l.getD i 0), .ptr 4 0 0] [plB t 1, some (.map (kmC K)), some (.cells 116 1 0 [.ptr 0 0 0]), some (.cells 87 1 0 (busC b)), some (.cells 99 1 0 [.fn (.func 105) [] [.ptr 3 0 0, .ptr 2 0 0]])] (.bool (q (l.getD i 0))) [plB t 1, some (.map (kmC K)), some (.cells 116 1 0 [.ptr 0 0 0]), some (.cells 87 1 0 (busC b)), some (.cells 99 1 0 [.fn (.func 105) [] [.ptr 3 0 0, .ptr 2 0 0]])]) :
    SemF Tryz.prog 92 [sl l, .fn (.func 109) [] [.ptr 4 0 0]] [plB t 1, some (.map (kmC K)), some (.cells 116 1 0 [.ptr 0 0 0]), some (.cells 87 1 0 (busC b)), some (.cells 99 1 0 [.fn (.func 105) [] [.ptr 3 0 0, .ptr 2 0 0]])] (.bool (l.any q)) [plB t 1, some (.map (kmC K)), some (.cells 116 1 0 [.ptr 0 0 0]), some (.cells 87 1 0 (busC b)), some (.cells 99 1 0 [.fn (.func 105) [] [.ptr 3 0 0, .ptr 2 0 0]])] := by
  have h := idxA_tim t b K l q hl hq
  rw [← idxOf_ge]
  simp only [plB, planC, busC, sl, townC, slH, slL] at h
  simp only [plB, planC, busC, sl, townC, slH, slL]
  (refine semF_of_awp (ys := [.bool (decide (0 ≤ idxOf q l))]) (fun w args => Tryz.call92 ..) Tryz.func92 rfl (fun w0 m0 wz => ?_); simp only [Tryz.ntmps92, Tryz.results92, initT, junks, homeC, hallC, slH, slL, townC, sl, List.toList_toArray, List.cons_append, List.nil_append, List.length_cons, List.length_nil, Nat.reduceAdd, Nat.reduceSub])
  (repeat' (first
 | (refine awp_ownN 2 rfl ?_; simp (maxSteps := 4000000) only [go_sem, seval, List.take_succ_cons, List.take_zero]; (repeat refine And.intro (by omega) ?_); refine own_go (h) [0, 1, 2, 3, 4] rfl ?_ ?_ rfl ?_ <;> try simp (maxSteps := 4000000) only [go_sem, seval, Nat.lt_irrefl] <;> try decide)
 | refine awp_seqK ?_
 | refine kt ?_
 | refine And.intro ?_ ?_
 | ((first | refine awp_stp rfl ?_ | refine awp_draw (by kernel_rfl) (by kernel_rfl) ?_ | refine Imp.le2 ?_ | refine go_split (fun _h => ?_) (fun _h => ?_)) <;> try simp (maxSteps := 4000000) only [go_sem, seval])
 | intro _h
 | refine awp_block ?_
 | refine awp_scope ?_
 | refine cond_b ?_ ?_
 | (show heapOK _ _ = true; kernel_rfl)
 | (show heapOK2 _ _ = true; kernel_rfl)
 | (omega))) <;> simp [*]
theorem allB_tim (t : Town) (b : Bus) (K : List (Sta × Int)) (l : List Int) (q : Int → Bool) (hl : l.length ≤ 1000000) (hq : ∀ i, i < l.length → SemF Tryz.prog 105 ([.int .i64 (l.getD i 0)] ++ [.ptr 3 0 0, .ptr 2 0 0]) [plB t 1, some (.map (kmC K)), some (.cells 116 1 0 [.ptr 0 0 0]), some (.cells 87 1 0 (busC b))] (.bool (q (l.getD i 0))) [plB t 1, some (.map (kmC K)), some (.cells 116 1 0 [.ptr 0 0 0]), some (.cells 87 1 0 (busC b))]) :
    SemF Tryz.prog 102 [sl l, .fn (.func 105) [] [.ptr 3 0 0, .ptr 2 0 0]] [plB t 1, some (.map (kmC K)), some (.cells 116 1 0 [.ptr 0 0 0]), some (.cells 87 1 0 (busC b))] (.bool (l.all q)) [plB t 1, some (.map (kmC K)), some (.cells 116 1 0 [.ptr 0 0 0]), some (.cells 87 1 0 (busC b))] := by
  have hany : l.all q = !l.any (fun x => !q x) := by simp [List.all_eq_not_any_not]
  rw [hany]
  have h := hasA_tim t b K l (fun x => !q x) hl (fun i hi => allA_tim t b K (l.getD i 0) (q (l.getD i 0)) (hq i hi))
  simp only [plB, planC, busC, sl, townC, slH, slL] at h
  simp only [plB, planC, busC, sl, townC, slH, slL]
  (refine semF_of_awp (ys := [.bool (!l.any (fun x => !q x))]) (fun w args => Tryz.call102 ..) Tryz.func102 rfl (fun w0 m0 wz => ?_); simp only [Tryz.ntmps102, Tryz.results102, initT, junks, homeC, hallC, slH, slL, townC, sl, List.toList_toArray, List.cons_append, List.nil_append, List.length_cons, List.length_nil, Nat.reduceAdd, Nat.reduceSub])
  (repeat' (first
 | (refine awp_ownN 2 rfl ?_; simp (maxSteps := 4000000) only [go_sem, seval, List.take_succ_cons, List.take_zero]; (repeat refine And.intro (by omega) ?_); refine own_go (h) [0, 1, 2, 3, 4] rfl ?_ ?_ rfl ?_ <;> try simp (maxSteps := 4000000) only [go_sem, seval, Nat.lt_irrefl] <;> try decide)
 | refine awp_seqK ?_
 | refine kt ?_
 | refine And.intro ?_ ?_
 | ((first | refine awp_stp rfl ?_ | refine awp_draw (by kernel_rfl) (by kernel_rfl) ?_ | refine Imp.le2 ?_ | refine go_split (fun _h => ?_) (fun _h => ?_)) <;> try simp (maxSteps := 4000000) only [go_sem, seval])
 | intro _h
 | refine awp_block ?_
 | refine awp_scope ?_
 | refine cond_b ?_ ?_
 | (show heapOK _ _ = true; kernel_rfl)
 | (show heapOK2 _ _ = true; kernel_rfl)
 | (omega))) <;> simp only [*, Bool.not_true, Bool.not_false]
structure BusIn (t : Town) (b : Bus) : Prop where
  homes : ∀ x ∈ b.homes, 0 ≤ x ∧ x < t.homes.length
  hall : 0 ≤ b.hall ∧ b.hall < t.halls.length
  leave : 0 ≤ b.leave ∧ b.leave ≤ 10000
  len : b.homes.length ≤ 1000000
def sheB (t : Town) (b : Bus) (x : Int) : Bool := decide (andn (t.homes.getD x.toNat default).pets (t.halls.getD b.hall.toNat default).pets = 0)
def timB (t : Town) (b : Bus) (x : Int) : Bool := decide ((worstL t).getD x.toNat 0 ≤ b.leave ∧ b.leave + (t.halls.getD b.hall.toNat default).drive ≤ (t.homes.getD x.toNat default).gone)
theorem she1_c (t : Town) (b : Bus) (K : List (Sta × Int)) (ht : TownOK t) (hb : BusIn t b) (x : Int) (hx : 0 ≤ x ∧ x < t.homes.length) :
    SemF Tryz.prog 103 [.int .i64 x, .ptr 2 0 0, .ptr 3 0 0] [plB t 1, some (.map (kmC K)), some (.cells 116 1 0 [.ptr 0 0 0]), some (.cells 87 1 0 (busC b))] (.bool (sheB t b x)) [plB t 1, some (.map (kmC K)), some (.cells 116 1 0 [.ptr 0 0 0]), some (.cells 87 1 0 (busC b))] := by
  have hh := hb.hall
  have htk := taken_c (t.homes.getD x.toNat default) (t.halls.getD b.hall.toNat default)
  have e : decide (andn (t.homes.getD x.toNat default).pets (t.halls.getD b.hall.toNat default).pets = 0) = sheB t b x := rfl
  rw [e] at htk
  simp only [homeC, hallC] at htk
  simp only [plB, planC, busC, sl, townC, slH, slL]
  (refine semF_of_awp (ys := [.bool (sheB t b x)]) (fun w args => Tryz.call103 ..) Tryz.func103 rfl (fun w0 m0 wz => ?_); simp only [Tryz.ntmps103, Tryz.results103, initT, junks, homeC, hallC, slH, slL, townC, sl, List.toList_toArray, List.cons_append, List.nil_append, List.length_cons, List.length_nil, Nat.reduceAdd, Nat.reduceSub])
  (repeat' (first
 | refine awp_seqK ?_
 | refine kt ?_
 | refine And.intro ?_ ?_
 | ((first | refine awp_stp rfl ?_ | refine awp_draw (by kernel_rfl) (by kernel_rfl) ?_ | refine Imp.le2 ?_ | refine callK_of (htk) ?_ | refine go_split (fun _h => ?_) (fun _h => ?_)) <;> try simp (maxSteps := 4000000) only [go_sem, seval])
 | intro _h
 | refine awp_block ?_
 | refine awp_scope ?_
 | refine cond_b ?_ ?_
 | (show heapOK _ _ = true; kernel_rfl)
 | (show heapOK2 _ _ = true; kernel_rfl)
 | (omega)))
  all_goals exact Eq.symm ‹_›
theorem tim1_c (t : Town) (b : Bus) (K : List (Sta × Int)) (ht : TownOK t) (hb : BusIn t b) (x : Int) (hx : 0 ≤ x ∧ x < t.homes.length) :
    SemF Tryz.prog 105 [.int .i64 x, .ptr 3 0 0, .ptr 2 0 0] [plB t 1, some (.map (kmC K)), some (.cells 116 1 0 [.ptr 0 0 0]), some (.cells 87 1 0 (busC b))] (.bool (timB t b x)) [plB t 1, some (.map (kmC K)), some (.cells 116 1 0 [.ptr 0 0 0]), some (.cells 87 1 0 (busC b))] := by
  have hh := hb.hall
  have hlv := hb.leave
  have hwl := worstL_length (t := t)
  have hd := (ht.hall b.hall.toNat (by omega)).drive
  unfold timB
  simp only [plB, planC, busC, sl, townC, slH, slL]
  (refine semF_of_awp (ys := [.bool (decide ((worstL t).getD x.toNat 0 ≤ b.leave ∧ b.leave + (t.halls.getD b.hall.toNat default).drive ≤ (t.homes.getD x.toNat default).gone))]) (fun w args => Tryz.call105 ..) Tryz.func105 rfl (fun w0 m0 wz => ?_); simp only [Tryz.ntmps105, Tryz.results105, initT, junks, homeC, hallC, slH, slL, townC, sl, List.toList_toArray, List.cons_append, List.nil_append, List.length_cons, List.length_nil, Nat.reduceAdd, Nat.reduceSub])
  (repeat' (first
 | refine awp_seqK ?_
 | refine kt ?_
 | refine And.intro ?_ ?_
 | ((first | refine awp_stp rfl ?_ | refine awp_draw (by kernel_rfl) (by kernel_rfl) ?_ | refine Imp.le2 ?_ | refine go_split (fun _h => ?_) (fun _h => ?_)) <;> try simp (maxSteps := 4000000) only [go_sem, seval])
 | intro _h
 | refine awp_block ?_
 | refine awp_scope ?_
 | refine cond_b ?_ ?_
 | (show heapOK _ _ = true; kernel_rfl)
 | (show heapOK2 _ _ = true; kernel_rfl)
 | (omega)))
  all_goals first
    | exact (decide_eq_true ⟨‹_›, ‹_›⟩).symm
    | exact (decide_eq_false (by omega)).symm
theorem sheltered_c (t : Town) (b : Bus) (K : List (Sta × Int)) (ht : TownOK t) (hb : BusIn t b) :
    SemF Tryz.prog 89 [.ptr 0 0 0, .agg (busC b)] [plB t 1, some (.map (kmC K))] (.bool (b.homes.all (sheB t b))) [plB t 1, some (.map (kmC K))] := by
  have h := allB_she t b K b.homes (sheB t b) hb.len (fun i hi => she1_c t b K ht hb _ (hb.homes _ (getD_mem hi)))
  simp only [plB, planC, busC, sl, townC, slH, slL] at h ⊢
  (refine semF_of_awp (ys := [.bool (b.homes.all (sheB t b))]) (fun w args => Tryz.call89 ..) Tryz.func89 rfl (fun w0 m0 wz => ?_); simp only [Tryz.ntmps89, Tryz.results89, initT, junks, homeC, hallC, slH, slL, townC, sl, List.toList_toArray, List.cons_append, List.nil_append, List.length_cons, List.length_nil, Nat.reduceAdd, Nat.reduceSub])
  (repeat' (first
 | (refine awp_ownN 3 rfl ?_; simp (maxSteps := 4000000) only [go_sem, seval, List.take_succ_cons, List.take_zero]; (repeat refine And.intro (by omega) ?_); refine own_go (h) [0, 1, 2, 3] rfl ?_ ?_ rfl ?_ <;> try simp (maxSteps := 4000000) only [go_sem, seval, Nat.lt_irrefl] <;> try decide)
 | refine awp_seqK ?_
 | refine kt ?_
 | refine And.intro ?_ ?_
 | ((first | refine awp_stp rfl ?_ | refine awp_draw (by kernel_rfl) (by kernel_rfl) ?_ | refine Imp.le2 ?_ | refine go_split (fun _h => ?_) (fun _h => ?_)) <;> try simp (maxSteps := 4000000) only [go_sem, seval])
 | intro _h
 | refine awp_block ?_
 | refine awp_scope ?_
 | refine cond_b ?_ ?_
 | (show heapOK _ _ = true; kernel_rfl)
 | (show heapOK2 _ _ = true; kernel_rfl)
 | (omega)))
  all_goals exact Eq.symm ‹_›
theorem timely_c (t : Town) (b : Bus) (K : List (Sta × Int)) (ht : TownOK t) (hb : BusIn t b) :
    SemF Tryz.prog 90 [.ptr 0 0 0, .agg (busC b)] [plB t 1, some (.map (kmC K))] (.bool (b.homes.all (timB t b))) [plB t 1, some (.map (kmC K))] := by
  have h := allB_tim t b K b.homes (timB t b) hb.len (fun i hi => tim1_c t b K ht hb _ (hb.homes _ (getD_mem hi)))
  simp only [plB, planC, busC, sl, townC, slH, slL] at h ⊢
  (refine semF_of_awp (ys := [.bool (b.homes.all (timB t b))]) (fun w args => Tryz.call90 ..) Tryz.func90 rfl (fun w0 m0 wz => ?_); simp only [Tryz.ntmps90, Tryz.results90, initT, junks, homeC, hallC, slH, slL, townC, sl, List.toList_toArray, List.cons_append, List.nil_append, List.length_cons, List.length_nil, Nat.reduceAdd, Nat.reduceSub])
  (repeat' (first
 | (refine awp_ownN 3 rfl ?_; simp (maxSteps := 4000000) only [go_sem, seval, List.take_succ_cons, List.take_zero]; (repeat refine And.intro (by omega) ?_); refine own_go (h) [0, 1, 2, 3] rfl ?_ ?_ rfl ?_ <;> try simp (maxSteps := 4000000) only [go_sem, seval, Nat.lt_irrefl] <;> try decide)
 | refine awp_seqK ?_
 | refine kt ?_
 | refine And.intro ?_ ?_
 | ((first | refine awp_stp rfl ?_ | refine awp_draw (by kernel_rfl) (by kernel_rfl) ?_ | refine Imp.le2 ?_ | refine go_split (fun _h => ?_) (fun _h => ?_)) <;> try simp (maxSteps := 4000000) only [go_sem, seval])
 | intro _h
 | refine awp_block ?_
 | refine awp_scope ?_
 | refine cond_b ?_ ?_
 | (show heapOK _ _ = true; kernel_rfl)
 | (show heapOK2 _ _ = true; kernel_rfl)
 | (omega)))
  all_goals exact Eq.symm ‹_›
theorem seated_c (t : Town) (b : Bus) (K : List (Sta × Int)) (ht : TownOK t) (hb : BusIn t b) :
    SemF Tryz.prog 88 [.ptr 0 0 0, .agg (busC b)] [plB t 1, some (.map (kmC K))] (.bool (decide (ppl t b.homes ≤ t.seats))) [plB t 1, some (.map (kmC K))] := by
  have h := people_c t b K ht hb.homes hb.len
  simp only [plB, planC, busC, sl, townC, slH, slL] at h ⊢
  (refine semF_of_awp (ys := [.bool (decide (ppl t b.homes ≤ t.seats))]) (fun w args => Tryz.call88 ..) Tryz.func88 rfl (fun w0 m0 wz => ?_); simp only [Tryz.ntmps88, Tryz.results88, initT, junks, homeC, hallC, slH, slL, townC, sl, List.toList_toArray, List.cons_append, List.nil_append, List.length_cons, List.length_nil, Nat.reduceAdd, Nat.reduceSub])
  (repeat' (first
 | refine awp_seqK ?_
 | refine kt ?_
 | refine And.intro ?_ ?_
 | ((first | refine awp_stp rfl ?_ | refine Imp.le2 ?_ | refine go_split (fun _h => ?_) (fun _h => ?_)) <;> try simp (maxSteps := 4000000) only [go_sem, seval])
 | intro _h
 | refine awp_block ?_
 | refine awp_scope ?_
 | refine cond_b ?_ ?_
 | (show heapOK _ _ = true; kernel_rfl)
 | (show heapOK2 _ _ = true; kernel_rfl)
 | (omega)))
  ((repeat refine awp_seqK ?_); refine awp_draws [(2, [])] (by kernel_rfl) (by kernel_rfl) ?_; simp (maxSteps := 4000000) only [go_sem, seval, sg_cons, sg_nil, List.take_succ_cons, List.take_zero, List.drop_succ_cons, List.drop_zero])
  (refine own_go (h) [0, 1] rfl (by simp (maxSteps := 4000000) only [go_sem, seval]) (by simp (maxSteps := 4000000) only [go_sem, seval, Nat.lt_irrefl] <;> decide) rfl ?_; simp (maxSteps := 4000000) only [go_sem, seval]; refine And.intro (frm_of (by repeat (first | exact rfl | exact ⟨_, rfl⟩ | refine And.intro ?_ ?_))) ?_; try simp (maxSteps := 4000000) only [go_sem, seval, sg_cons, sg_nil, List.take_succ_cons, List.take_zero, List.drop_succ_cons, List.drop_zero])
  (repeat' (first
 | refine awp_seqK ?_
 | refine kt ?_
 | refine And.intro ?_ ?_
 | ((first | refine awp_stp rfl ?_ | refine awp_draw (by kernel_rfl) (by kernel_rfl) ?_ | refine Imp.le2 ?_ | refine go_split (fun _h => ?_) (fun _h => ?_)) <;> try simp (maxSteps := 4000000) only [go_sem, seval])
 | intro _h
 | refine awp_block ?_
 | refine awp_scope ?_
 | refine cond_b ?_ ?_
 | (show heapOK _ _ = true; kernel_rfl)
 | (show heapOK2 _ _ = true; kernel_rfl)
 | (omega)))
  all_goals first
    | exact (decide_eq_true ‹_›).symm
    | exact (decide_eq_false ‹_›).symm
theorem reas_c (t : Town) (b : Bus) (K : List (Sta × Int)) (f : FuncId) (q : Bool) (hq : SemF Tryz.prog f [.ptr 0 0 0, .agg (busC b)] [plB t 1, some (.map (kmC K))] (.bool q) [plB t 1, some (.map (kmC K))]) :
    SemF Tryz.prog 91 [.agg [.fn (.func f) [] []], .ptr 2 0 0, .ptr 3 0 0] [plB t 1, some (.map (kmC K)), some (.cells 116 1 0 [.ptr 0 0 0]), some (.cells 87 1 0 (busC b))] (.bool q) [plB t 1, some (.map (kmC K)), some (.cells 116 1 0 [.ptr 0 0 0]), some (.cells 87 1 0 (busC b))] := by
  simp only [plB, planC, busC, sl, townC, slH, slL] at hq ⊢
  (refine semF_of_awp (ys := [.bool q]) (fun w args => Tryz.call91 ..) Tryz.func91 rfl (fun w0 m0 wz => ?_); simp only [Tryz.ntmps91, Tryz.results91, initT, junks, homeC, hallC, slH, slL, townC, sl, List.toList_toArray, List.cons_append, List.nil_append, List.length_cons, List.length_nil, Nat.reduceAdd, Nat.reduceSub])
  (repeat' (first
 | (refine awp_ownN 4 rfl ?_; simp (maxSteps := 4000000) only [go_sem, seval, List.take_succ_cons, List.take_zero]; (repeat refine And.intro (by omega) ?_); refine own_go (hq) [0, 1] rfl ?_ ?_ rfl ?_ <;> try simp (maxSteps := 4000000) only [go_sem, seval, Nat.lt_irrefl] <;> try decide)
 | refine awp_seqK ?_
 | refine kt ?_
 | refine And.intro ?_ ?_
 | ((first | refine awp_stp rfl ?_ | refine awp_draw (by kernel_rfl) (by kernel_rfl) ?_ | refine Imp.le2 ?_ | refine go_split (fun _h => ?_) (fun _h => ?_)) <;> try simp (maxSteps := 4000000) only [go_sem, seval])
 | intro _h
 | refine awp_block ?_
 | refine awp_scope ?_
 | refine cond_b ?_ ?_
 | (show heapOK _ _ = true; kernel_rfl)
 | (show heapOK2 _ _ = true; kernel_rfl)
 | (omega)))
  all_goals exact Eq.symm ‹_›
theorem reasN_c (t : Town) (b : Bus) (K : List (Sta × Int)) (f : FuncId) (q : Bool) (hq : SemF Tryz.prog f [.ptr 0 0 0, .agg (busC b)] [plB t 1, some (.map (kmC K))] (.bool q) [plB t 1, some (.map (kmC K))]) :
    SemF Tryz.prog 101 [.agg [.fn (.func f) [] []], .ptr 4 0 0] [plB t 1, some (.map (kmC K)), some (.cells 116 1 0 [.ptr 0 0 0]), some (.cells 87 1 0 (busC b)), some (.cells 167 1 0 [.fn (.func 91) [] [.ptr 2 0 0, .ptr 3 0 0]])] (.bool (!q)) [plB t 1, some (.map (kmC K)), some (.cells 116 1 0 [.ptr 0 0 0]), some (.cells 87 1 0 (busC b)), some (.cells 167 1 0 [.fn (.func 91) [] [.ptr 2 0 0, .ptr 3 0 0]])] := by
  have h := reas_c t b K f q hq
  simp only [plB, planC, busC, sl, townC, slH, slL] at h ⊢
  (refine semF_of_awp (ys := [.bool (!q)]) (fun w args => Tryz.call101 ..) Tryz.func101 rfl (fun w0 m0 wz => ?_); simp only [Tryz.ntmps101, Tryz.results101, initT, junks, homeC, hallC, slH, slL, townC, sl, List.toList_toArray, List.cons_append, List.nil_append, List.length_cons, List.length_nil, Nat.reduceAdd, Nat.reduceSub])
  (repeat' (first
 | (refine awp_ownN 2 rfl ?_; simp (maxSteps := 4000000) only [go_sem, seval, List.take_succ_cons, List.take_zero]; (repeat refine And.intro (by omega) ?_); refine own_go (h) [0, 1, 2, 3] rfl ?_ ?_ rfl ?_ <;> try simp (maxSteps := 4000000) only [go_sem, seval, Nat.lt_irrefl] <;> try decide)
 | refine awp_seqK ?_
 | refine kt ?_
 | refine And.intro ?_ ?_
 | ((first | refine awp_stp rfl ?_ | refine awp_draw (by kernel_rfl) (by kernel_rfl) ?_ | refine Imp.le2 ?_ | refine go_split (fun _h => ?_) (fun _h => ?_)) <;> try simp (maxSteps := 4000000) only [go_sem, seval])
 | intro _h
 | refine awp_block ?_
 | refine awp_scope ?_
 | refine cond_b ?_ ?_
 | (show heapOK _ _ = true; kernel_rfl)
 | (show heapOK2 _ _ = true; kernel_rfl)
 | (omega))) <;> simp [*]
def reaI (q1 q2 q3 : Bool) : Int := if q1 = false then 0 else if q2 = false then 1 else if q3 = false then 2 else -1
theorem reaI_ge {q1 q2 q3 : Bool} : decide (0 ≤ reaI q1 q2 q3) = !(q1 && q2 && q3) := by cases q1 <;> cases q2 <;> cases q3 <;> rfl
theorem reasI_c (t : Town) (b : Bus) (K : List (Sta × Int)) (q1 q2 q3 : Bool) (h1 : SemF Tryz.prog 88 [.ptr 0 0 0, .agg (busC b)] [plB t 1, some (.map (kmC K))] (.bool q1) [plB t 1, some (.map (kmC K))])
    (h2 : SemF Tryz.prog 89 [.ptr 0 0 0, .agg (busC b)] [plB t 1, some (.map (kmC K))] (.bool q2) [plB t 1, some (.map (kmC K))]) (h3 : SemF Tryz.prog 90 [.ptr 0 0 0, .agg (busC b)] [plB t 1, some (.map (kmC K))] (.bool q3) [plB t 1, some (.map (kmC K))]) :
    SemF Tryz.prog 108 [.psl true 3 [.fn (.func 88) [] [], .fn (.func 89) [] [], .fn (.func 90) [] []], .fn (.func 101) [] [.ptr 4 0 0]] [plB t 1, some (.map (kmC K)), some (.cells 116 1 0 [.ptr 0 0 0]), some (.cells 87 1 0 (busC b)), some (.cells 167 1 0 [.fn (.func 91) [] [.ptr 2 0 0, .ptr 3 0 0]])] (.int .i64 (reaI q1 q2 q3)) [plB t 1, some (.map (kmC K)), some (.cells 116 1 0 [.ptr 0 0 0]), some (.cells 87 1 0 (busC b)), some (.cells 167 1 0 [.fn (.func 91) [] [.ptr 2 0 0, .ptr 3 0 0]])] := by
  have g1 := reasN_c t b K 88 q1 h1
  have g2 := reasN_c t b K 89 q2 h2
  have g3 := reasN_c t b K 90 q3 h3
  simp only [plB, planC, busC, sl, townC, slH, slL] at g1 g2 g3 ⊢
  cases q1
  · (refine semF_of_awp (ys := [.int .i64 0]) (fun w args => Tryz.call108 ..) Tryz.func108 rfl (fun w0 m0 wz => ?_); simp only [Tryz.ntmps108, Tryz.results108, initT, junks, homeC, hallC, slH, slL, townC, sl, List.toList_toArray, List.cons_append, List.nil_append, List.length_cons, List.length_nil, Nat.reduceAdd, Nat.reduceSub])
    (repeat' (first
 | refine awp_seqK ?_
 | refine kt ?_
 | refine And.intro ?_ ?_
 | ((first | refine awp_stp rfl ?_ | refine awp_draw (by kernel_rfl) (by kernel_rfl) ?_ | refine Imp.le2 ?_ | refine go_split (fun _h => ?_) (fun _h => ?_)) <;> try simp (maxSteps := 4000000) only [go_sem, seval])
 | intro _h
 | refine awp_block ?_
 | refine awp_scope ?_
 | refine cond_b ?_ ?_
 | (show heapOK _ _ = true; kernel_rfl)
 | (show heapOK2 _ _ = true; kernel_rfl)
 | (omega)))
    (refine awp_rounds 4 ?_; rw [ar_s])
    (repeat' (first
 | (refine awp_ownN 5 rfl ?_; simp (maxSteps := 4000000) only [go_sem, seval, List.take_succ_cons, List.take_zero]; (repeat refine And.intro (by omega) ?_); refine own_go (g1) [0, 1, 2, 3, 4] rfl ?_ ?_ rfl ?_ <;> try simp (maxSteps := 4000000) only [go_sem, seval, Nat.lt_irrefl] <;> try decide)
 | refine awp_seqK ?_
 | refine kt ?_
 | refine And.intro ?_ ?_
 | ((first | refine awp_stp rfl ?_ | refine awp_draw (by kernel_rfl) (by kernel_rfl) ?_ | refine Imp.le2 ?_ | refine go_split (fun _h => ?_) (fun _h => ?_)) <;> try simp (maxSteps := 4000000) only [go_sem, seval])
 | intro _h
 | refine awp_block ?_
 | refine awp_scope ?_
 | refine cond_b ?_ ?_
 | (show heapOK _ _ = true; kernel_rfl)
 | (show heapOK2 _ _ = true; kernel_rfl)
 | (omega)))
  · cases q2
    · (refine semF_of_awp (ys := [.int .i64 1]) (fun w args => Tryz.call108 ..) Tryz.func108 rfl (fun w0 m0 wz => ?_); simp only [Tryz.ntmps108, Tryz.results108, initT, junks, homeC, hallC, slH, slL, townC, sl, List.toList_toArray, List.cons_append, List.nil_append, List.length_cons, List.length_nil, Nat.reduceAdd, Nat.reduceSub])
      (repeat' (first
 | refine awp_seqK ?_
 | refine kt ?_
 | refine And.intro ?_ ?_
 | ((first | refine awp_stp rfl ?_ | refine awp_draw (by kernel_rfl) (by kernel_rfl) ?_ | refine Imp.le2 ?_ | refine go_split (fun _h => ?_) (fun _h => ?_)) <;> try simp (maxSteps := 4000000) only [go_sem, seval])
 | intro _h
 | refine awp_block ?_
 | refine awp_scope ?_
 | refine cond_b ?_ ?_
 | (show heapOK _ _ = true; kernel_rfl)
 | (show heapOK2 _ _ = true; kernel_rfl)
 | (omega)))
      (refine awp_rounds 4 ?_; rw [ar_s])
      (repeat' (first
 | (refine awp_ownN 5 rfl ?_; simp (maxSteps := 4000000) only [go_sem, seval, List.take_succ_cons, List.take_zero]; (repeat refine And.intro (by omega) ?_); refine own_go (g1) [0, 1, 2, 3, 4] rfl ?_ ?_ rfl ?_ <;> try simp (maxSteps := 4000000) only [go_sem, seval, Nat.lt_irrefl] <;> try decide)
 | (refine awp_ownN 5 rfl ?_; simp (maxSteps := 4000000) only [go_sem, seval, List.take_succ_cons, List.take_zero]; (repeat refine And.intro (by omega) ?_); refine own_go (g2) [0, 1, 2, 3, 4] rfl ?_ ?_ rfl ?_ <;> try simp (maxSteps := 4000000) only [go_sem, seval, Nat.lt_irrefl] <;> try decide)
 | refine awp_seqK ?_
 | refine kt ?_
 | refine And.intro ?_ ?_
 | ((first | refine awp_stp rfl ?_ | refine awp_draw (by kernel_rfl) (by kernel_rfl) ?_ | refine Imp.le2 ?_ | refine go_split (fun _h => ?_) (fun _h => ?_)) <;> try simp (maxSteps := 4000000) only [go_sem, seval])
 | intro _h
 | refine awp_block ?_
 | refine awp_scope ?_
 | refine cond_b ?_ ?_
 | (show heapOK _ _ = true; kernel_rfl)
 | (show heapOK2 _ _ = true; kernel_rfl)
 | (omega)))
    · cases q3
      · (refine semF_of_awp (ys := [.int .i64 2]) (fun w args => Tryz.call108 ..) Tryz.func108 rfl (fun w0 m0 wz => ?_); simp only [Tryz.ntmps108, Tryz.results108, initT, junks, homeC, hallC, slH, slL, townC, sl, List.toList_toArray, List.cons_append, List.nil_append, List.length_cons, List.length_nil, Nat.reduceAdd, Nat.reduceSub])
        (repeat' (first
 | refine awp_seqK ?_
 | refine kt ?_
 | refine And.intro ?_ ?_
 | ((first | refine awp_stp rfl ?_ | refine awp_draw (by kernel_rfl) (by kernel_rfl) ?_ | refine Imp.le2 ?_ | refine go_split (fun _h => ?_) (fun _h => ?_)) <;> try simp (maxSteps := 4000000) only [go_sem, seval])
 | intro _h
 | refine awp_block ?_
 | refine awp_scope ?_
 | refine cond_b ?_ ?_
 | (show heapOK _ _ = true; kernel_rfl)
 | (show heapOK2 _ _ = true; kernel_rfl)
 | (omega)))
        (refine awp_rounds 4 ?_; rw [ar_s])
        (repeat' (first
 | (refine awp_ownN 5 rfl ?_; simp (maxSteps := 4000000) only [go_sem, seval, List.take_succ_cons, List.take_zero]; (repeat refine And.intro (by omega) ?_); refine own_go (g1) [0, 1, 2, 3, 4] rfl ?_ ?_ rfl ?_ <;> try simp (maxSteps := 4000000) only [go_sem, seval, Nat.lt_irrefl] <;> try decide)
 | (refine awp_ownN 5 rfl ?_; simp (maxSteps := 4000000) only [go_sem, seval, List.take_succ_cons, List.take_zero]; (repeat refine And.intro (by omega) ?_); refine own_go (g2) [0, 1, 2, 3, 4] rfl ?_ ?_ rfl ?_ <;> try simp (maxSteps := 4000000) only [go_sem, seval, Nat.lt_irrefl] <;> try decide)
 | (refine awp_ownN 5 rfl ?_; simp (maxSteps := 4000000) only [go_sem, seval, List.take_succ_cons, List.take_zero]; (repeat refine And.intro (by omega) ?_); refine own_go (g3) [0, 1, 2, 3, 4] rfl ?_ ?_ rfl ?_ <;> try simp (maxSteps := 4000000) only [go_sem, seval, Nat.lt_irrefl] <;> try decide)
 | refine awp_seqK ?_
 | refine kt ?_
 | refine And.intro ?_ ?_
 | ((first | refine awp_stp rfl ?_ | refine awp_draw (by kernel_rfl) (by kernel_rfl) ?_ | refine Imp.le2 ?_ | refine go_split (fun _h => ?_) (fun _h => ?_)) <;> try simp (maxSteps := 4000000) only [go_sem, seval])
 | intro _h
 | refine awp_block ?_
 | refine awp_scope ?_
 | refine cond_b ?_ ?_
 | (show heapOK _ _ = true; kernel_rfl)
 | (show heapOK2 _ _ = true; kernel_rfl)
 | (omega)))
      · (refine semF_of_awp (ys := [.int .i64 (-1)]) (fun w args => Tryz.call108 ..) Tryz.func108 rfl (fun w0 m0 wz => ?_); simp only [Tryz.ntmps108, Tryz.results108, initT, junks, homeC, hallC, slH, slL, townC, sl, List.toList_toArray, List.cons_append, List.nil_append, List.length_cons, List.length_nil, Nat.reduceAdd, Nat.reduceSub])
        (repeat' (first
 | refine awp_seqK ?_
 | refine kt ?_
 | refine And.intro ?_ ?_
 | ((first | refine awp_stp rfl ?_ | refine awp_draw (by kernel_rfl) (by kernel_rfl) ?_ | refine Imp.le2 ?_ | refine go_split (fun _h => ?_) (fun _h => ?_)) <;> try simp (maxSteps := 4000000) only [go_sem, seval])
 | intro _h
 | refine awp_block ?_
 | refine awp_scope ?_
 | refine cond_b ?_ ?_
 | (show heapOK _ _ = true; kernel_rfl)
 | (show heapOK2 _ _ = true; kernel_rfl)
 | (omega)))
        (refine awp_rounds 4 ?_; rw [ar_s])
        (repeat' (first
 | (refine awp_ownN 5 rfl ?_; simp (maxSteps := 4000000) only [go_sem, seval, List.take_succ_cons, List.take_zero]; (repeat refine And.intro (by omega) ?_); refine own_go (g1) [0, 1, 2, 3, 4] rfl ?_ ?_ rfl ?_ <;> try simp (maxSteps := 4000000) only [go_sem, seval, Nat.lt_irrefl] <;> try decide)
 | (refine awp_ownN 5 rfl ?_; simp (maxSteps := 4000000) only [go_sem, seval, List.take_succ_cons, List.take_zero]; (repeat refine And.intro (by omega) ?_); refine own_go (g2) [0, 1, 2, 3, 4] rfl ?_ ?_ rfl ?_ <;> try simp (maxSteps := 4000000) only [go_sem, seval, Nat.lt_irrefl] <;> try decide)
 | (refine awp_ownN 5 rfl ?_; simp (maxSteps := 4000000) only [go_sem, seval, List.take_succ_cons, List.take_zero]; (repeat refine And.intro (by omega) ?_); refine own_go (g3) [0, 1, 2, 3, 4] rfl ?_ ?_ rfl ?_ <;> try simp (maxSteps := 4000000) only [go_sem, seval, Nat.lt_irrefl] <;> try decide)
 | refine awp_seqK ?_
 | refine kt ?_
 | refine And.intro ?_ ?_
 | ((first | refine awp_stp rfl ?_ | refine awp_draw (by kernel_rfl) (by kernel_rfl) ?_ | refine Imp.le2 ?_ | refine go_split (fun _h => ?_) (fun _h => ?_)) <;> try simp (maxSteps := 4000000) only [go_sem, seval])
 | intro _h
 | refine awp_block ?_
 | refine awp_scope ?_
 | refine cond_b ?_ ?_
 | (show heapOK _ _ = true; kernel_rfl)
 | (show heapOK2 _ _ = true; kernel_rfl)
 | (omega)))
theorem reasH_c (t : Town) (b : Bus) (K : List (Sta × Int)) (q1 q2 q3 : Bool) (h1 : SemF Tryz.prog 88 [.ptr 0 0 0, .agg (busC b)] [plB t 1, some (.map (kmC K))] (.bool q1) [plB t 1, some (.map (kmC K))])
    (h2 : SemF Tryz.prog 89 [.ptr 0 0 0, .agg (busC b)] [plB t 1, some (.map (kmC K))] (.bool q2) [plB t 1, some (.map (kmC K))]) (h3 : SemF Tryz.prog 90 [.ptr 0 0 0, .agg (busC b)] [plB t 1, some (.map (kmC K))] (.bool q3) [plB t 1, some (.map (kmC K))]) :
    SemF Tryz.prog 100 [.psl true 3 [.fn (.func 88) [] [], .fn (.func 89) [] [], .fn (.func 90) [] []], .fn (.func 101) [] [.ptr 4 0 0]] [plB t 1, some (.map (kmC K)), some (.cells 116 1 0 [.ptr 0 0 0]), some (.cells 87 1 0 (busC b)), some (.cells 167 1 0 [.fn (.func 91) [] [.ptr 2 0 0, .ptr 3 0 0]])] (.bool (!(q1 && q2 && q3))) [plB t 1, some (.map (kmC K)), some (.cells 116 1 0 [.ptr 0 0 0]), some (.cells 87 1 0 (busC b)), some (.cells 167 1 0 [.fn (.func 91) [] [.ptr 2 0 0, .ptr 3 0 0]])] := by
  have h := reasI_c t b K q1 q2 q3 h1 h2 h3
  rw [← reaI_ge]
  simp only [plB, planC, busC, sl, townC, slH, slL] at h ⊢
  (refine semF_of_awp (ys := [.bool (decide (0 ≤ reaI q1 q2 q3))]) (fun w args => Tryz.call100 ..) Tryz.func100 rfl (fun w0 m0 wz => ?_); simp only [Tryz.ntmps100, Tryz.results100, initT, junks, homeC, hallC, slH, slL, townC, sl, List.toList_toArray, List.cons_append, List.nil_append, List.length_cons, List.length_nil, Nat.reduceAdd, Nat.reduceSub])
  (repeat' (first
 | (refine awp_ownN 2 rfl ?_; simp (maxSteps := 4000000) only [go_sem, seval, List.take_succ_cons, List.take_zero]; (repeat refine And.intro (by omega) ?_); refine own_go (h) [0, 1, 2, 3, 4] rfl ?_ ?_ rfl ?_ <;> try simp (maxSteps := 4000000) only [go_sem, seval, Nat.lt_irrefl] <;> try decide)
 | refine awp_seqK ?_
 | refine kt ?_
 | refine And.intro ?_ ?_
 | ((first | refine awp_stp rfl ?_ | refine awp_draw (by kernel_rfl) (by kernel_rfl) ?_ | refine Imp.le2 ?_ | refine go_split (fun _h => ?_) (fun _h => ?_)) <;> try simp (maxSteps := 4000000) only [go_sem, seval])
 | intro _h
 | refine awp_block ?_
 | refine awp_scope ?_
 | refine cond_b ?_ ?_
 | (show heapOK _ _ = true; kernel_rfl)
 | (show heapOK2 _ _ = true; kernel_rfl)
 | (omega))) <;> simp [*]
theorem reasA_c (t : Town) (b : Bus) (K : List (Sta × Int)) (q1 q2 q3 : Bool) (h1 : SemF Tryz.prog 88 [.ptr 0 0 0, .agg (busC b)] [plB t 1, some (.map (kmC K))] (.bool q1) [plB t 1, some (.map (kmC K))])
    (h2 : SemF Tryz.prog 89 [.ptr 0 0 0, .agg (busC b)] [plB t 1, some (.map (kmC K))] (.bool q2) [plB t 1, some (.map (kmC K))]) (h3 : SemF Tryz.prog 90 [.ptr 0 0 0, .agg (busC b)] [plB t 1, some (.map (kmC K))] (.bool q3) [plB t 1, some (.map (kmC K))]) :
    SemF Tryz.prog 87 [.psl true 3 [.fn (.func 88) [] [], .fn (.func 89) [] [], .fn (.func 90) [] []], .fn (.func 91) [] [.ptr 2 0 0, .ptr 3 0 0]] [plB t 1, some (.map (kmC K)), some (.cells 116 1 0 [.ptr 0 0 0]), some (.cells 87 1 0 (busC b))] (.bool (q1 && q2 && q3)) [plB t 1, some (.map (kmC K)), some (.cells 116 1 0 [.ptr 0 0 0]), some (.cells 87 1 0 (busC b))] := by
  have h := reasH_c t b K q1 q2 q3 h1 h2 h3
  generalize (q1 && q2 && q3) = q at *
  simp only [plB, planC, busC, sl, townC, slH, slL] at h ⊢
  (refine semF_of_awp (ys := [.bool q]) (fun w args => Tryz.call87 ..) Tryz.func87 rfl (fun w0 m0 wz => ?_); simp only [Tryz.ntmps87, Tryz.results87, initT, junks, homeC, hallC, slH, slL, townC, sl, List.toList_toArray, List.cons_append, List.nil_append, List.length_cons, List.length_nil, Nat.reduceAdd, Nat.reduceSub])
  (repeat' (first
 | (refine awp_ownN 2 rfl ?_; simp (maxSteps := 4000000) only [go_sem, seval, List.take_succ_cons, List.take_zero]; (repeat refine And.intro (by omega) ?_); refine own_go (h) [0, 1, 2, 3, 4] rfl ?_ ?_ rfl ?_ <;> try simp (maxSteps := 4000000) only [go_sem, seval, Nat.lt_irrefl] <;> try decide)
 | refine awp_seqK ?_
 | refine kt ?_
 | refine And.intro ?_ ?_
 | ((first | refine awp_stp rfl ?_ | refine awp_draw (by kernel_rfl) (by kernel_rfl) ?_ | refine Imp.le2 ?_ | refine go_split (fun _h => ?_) (fun _h => ?_)) <;> try simp (maxSteps := 4000000) only [go_sem, seval])
 | intro _h
 | refine awp_block ?_
 | refine awp_scope ?_
 | refine cond_b ?_ ?_
 | (show heapOK _ _ = true; kernel_rfl)
 | (show heapOK2 _ _ = true; kernel_rfl)
 | (omega))) <;> (have h9 : (!!q) = q := Bool.not_not q; rw [← h9]; exact Eq.symm ‹_›)
def mayB (t : Town) (b : Bus) : Bool := decide (ppl t b.homes ≤ t.seats) && b.homes.all (sheB t b) && b.homes.all (timB t b)
theorem may_c (t : Town) (b : Bus) (K : List (Sta × Int)) (ht : TownOK t) (hb : BusIn t b) :
    SemF Tryz.prog 71 [.ptr 0 0 0, .agg (busC b)] [plB t 1, some (.map (kmC K))] (.bool (mayB t b)) [plB t 1, some (.map (kmC K))] := by
  have h := reasA_c t b K _ _ _ (seated_c t b K ht hb) (sheltered_c t b K ht hb) (timely_c t b K ht hb)
  have e : (decide (ppl t b.homes ≤ t.seats) && b.homes.all (sheB t b) && b.homes.all (timB t b)) = mayB t b := rfl
  rw [e] at h
  generalize mayB t b = q at *
  simp only [plB, planC, busC, sl, townC, slH, slL] at h ⊢
  (refine semF_of_awp (ys := [.bool q]) (fun w args => Tryz.call71 ..) Tryz.func71 rfl (fun w0 m0 wz => ?_); simp only [Tryz.ntmps71, Tryz.results71, initT, junks, homeC, hallC, slH, slL, townC, sl, List.toList_toArray, List.cons_append, List.nil_append, List.length_cons, List.length_nil, Nat.reduceAdd, Nat.reduceSub])
  (repeat' (first
 | (refine awp_ownN 5 rfl ?_; simp (maxSteps := 4000000) only [go_sem, seval, List.take_succ_cons, List.take_zero]; (repeat refine And.intro (by omega) ?_); refine own_go (h) [0, 1, 2, 3] rfl ?_ ?_ rfl ?_ <;> try simp (maxSteps := 4000000) only [go_sem, seval, Nat.lt_irrefl] <;> try decide)
 | refine awp_seqK ?_
 | refine kt ?_
 | refine And.intro ?_ ?_
 | ((first | refine awp_stp rfl ?_ | refine awp_draw (by kernel_rfl) (by kernel_rfl) ?_ | refine Imp.le2 ?_ | refine go_split (fun _h => ?_) (fun _h => ?_)) <;> try simp (maxSteps := 4000000) only [go_sem, seval])
 | intro _h
 | refine awp_block ?_
 | refine awp_scope ?_
 | refine cond_b ?_ ?_
 | (show heapOK _ _ = true; kernel_rfl)
 | (show heapOK2 _ _ = true; kernel_rfl)
 | (omega)))
  all_goals exact Eq.symm ‹_›
end Go.Am
namespace Go.Am
open Go.RowKit Go.Proofs
attribute [local irreducible] AWP CallS Kt goK CallK stepK evOps SemF SemY Imp
set_option maxRecDepth 4000
set_option linter.unusedSimpArgs false
set_option linter.unusedVariables false
set_option maxHeartbeats 1600000
theorem sp_room {x : AV} {a b c v : Int} {i : Nat} (h : i < 3) : splice [x, .int .i64 a, .int .i64 b, .int .i64 c] (1 + i) [.int .i64 v] = [x, .int .i64 (if i = 0 then v else a), .int .i64 (if i = 1 then v else b), .int .i64 (if i = 2 then v else c)] := by
  rcases (by omega : i = 0 ∨ i = 1 ∨ i = 2) with rfl | rfl | rfl <;> simp [splice]
theorem nth_room {x : AV} {a b c : Int} {i : Nat} {K : AV → Prop} : optK (nth [x, .int .i64 a, .int .i64 b, .int .i64 c] (1 + i)) K = (i < 3 ∧ K (.int .i64 (if i = 0 then a else if i = 1 then b else c))) := by
  by_cases h : i < 3
  · rcases (by omega : i = 0 ∨ i = 1 ∨ i = 2) with rfl | rfl | rfl <;> simp [nth, optK]
  · rw [← nth_is, List.getElem?_eq_none (by simp; omega)]
    simp [optK, h]
theorem kmC_nil : kmC [] = [] := nrfl rfl
theorem planning_c (t : Town) (ht : TownOK t) : SemF Tryz.prog 40 [.agg (townC t)] [] (.ptr 2 0 0) [none, some (.map (kmC [])), plB t 1] := by
  have hw := worst_c t ht
  simp only [plB, planC, busC, sl, townC, slH, slL] at hw ⊢
  (refine semF_of_awp (ys := [.ptr 2 0 0]) (fun w args => Tryz.call40 ..) Tryz.func40 rfl (fun w0 m0 wz => ?_); simp only [Tryz.ntmps40, Tryz.results40, initT, junks, homeC, hallC, slH, slL, townC, sl, List.toList_toArray, List.cons_append, List.nil_append, List.length_cons, List.length_nil, Nat.reduceAdd, Nat.reduceSub])
  (repeat' (first
 | refine awp_seqK ?_
 | refine kt ?_
 | refine And.intro ?_ ?_
 | ((first | refine awp_stp rfl ?_ | refine awp_draw (by kernel_rfl) (by kernel_rfl) ?_ | refine Imp.le2 ?_ | refine callK_of (hw) ?_ | refine go_split (fun _h => ?_) (fun _h => ?_)) <;> try simp (maxSteps := 4000000) only [go_sem, seval])
 | intro _h
 | refine awp_block ?_
 | refine awp_scope ?_
 | refine cond_b ?_ ?_
 | (show heapOK _ _ = true; kernel_rfl)
 | (show heapOK2 _ _ = true; kernel_rfl)
 | (omega)))
  all_goals rfl
def stBeg (t : Town) (n k : Nat) : Sta := ⟨2 ^ n - 1, if 0 < k then (t.halls.getD 0 default).room else 0, if 1 < k then (t.halls.getD 1 default).room else 0, if 2 < k then (t.halls.getD 2 default).room else 0⟩
theorem all_homes {n : Nat} (h : n ≤ 8) : IntKind.u8.wrap (IntKind.u8.wrap (1 * 2 ^ (min n IntKind.u8.bits)) - 1) = ((2 ^ n - 1 : Nat) : Int) := by
  rcases (by omega : n = 0 ∨ n = 1 ∨ n = 2 ∨ n = 3 ∨ n = 4 ∨ n = 5 ∨ n = 6 ∨ n = 7 ∨ n = 8) with rfl | rfl | rfl | rfl | rfl | rfl | rfl | rfl | rfl <;> rfl
theorem begin_c (t : Town) (n : Nat) (K : List (Sta × Int)) (ht : TownOK t) (hn : n ≤ 8) :
    SemF Tryz.prog 41 [.ptr 0 0 0, .int .i64 n] [plB t 1, some (.map (kmC K))] (.agg (stC (stBeg t n t.halls.length))) [plB t 1, some (.map (kmC K))] := by
  have hl := ht.halls
  have e0 := all_homes hn
  simp only [plB, planC, busC, sl, townC, slH, slL, stC]
  (refine semF_of_awp (ys := [.agg (stC (stBeg t n t.halls.length))]) (fun w args => Tryz.call41 ..) Tryz.func41 rfl (fun w0 m0 wz => ?_); simp only [Tryz.ntmps41, Tryz.results41, initT, junks, homeC, hallC, slH, slL, townC, sl, List.toList_toArray, List.cons_append, List.nil_append, List.length_cons, List.length_nil, Nat.reduceAdd, Nat.reduceSub])
  (repeat' (first
 | refine awp_seqK ?_
 | refine kt ?_
 | refine And.intro ?_ ?_
 | ((first | refine awp_stp rfl ?_ | refine awp_draw (by kernel_rfl) (by kernel_rfl) ?_ | refine Imp.le2 ?_ | refine go_split (fun _h => ?_) (fun _h => ?_)) <;> try simp (maxSteps := 4000000) only [go_sem, seval])
 | intro _h
 | refine awp_block ?_
 | refine awp_scope ?_
 | refine cond_b ?_ ?_
 | (show heapOK _ _ = true; kernel_rfl)
 | (show heapOK2 _ _ = true; kernel_rfl)
 | (omega)))
  have e0 := all_homes hn
  have er : ∀ k, (stBeg t n k).rest = 2 ^ n - 1 := fun _ => rfl
  refine awp_loopN t.halls.length (fun k => ⟨mkT 30 [(0, .ptr 0 0 0), (4, .ptr 2 0 0), (5, .ptr 3 0 0), (16, slL t.halls), (17, .int .i64 t.halls.length), (18, .int .i64 k)], [plB t 1, some (.map (kmC K)), some (.cells 121 1 0 [.int .u8 0, .int .i64 0, .int .i64 0, .int .i64 0]), some (.cells 121 1 0 (stC (stBeg t n k)))], []⟩) (.le2 ?_) ?_
  · simp only [plB, planC, busC, sl, townC, slH, slL, stC, er, ← e0]; simp (maxSteps := 4000000) only [go_sem, seval]
    first | rfl | exact ⟨rfl, rfl⟩
  · intro k hk
    rcases Nat.lt_or_eq_of_le hk with hk1 | hk1
    · have hk3 : k < 3 := by omega
      have hsp := fun (x : AV) (a b c v : Int) => sp_room (x := x) (a := a) (b := b) (c := c) (v := v) hk3
      have e : stC (stBeg t n (k + 1)) = [.int .u8 (stBeg t n k).rest, .int .i64 (if k = 0 then (t.halls.getD k default).room else (stBeg t n k).r0), .int .i64 (if k = 1 then (t.halls.getD k default).room else (stBeg t n k).r1), .int .i64 (if k = 2 then (t.halls.getD k default).room else (stBeg t n k).r2)] := by
        rcases (by omega : k = 0 ∨ k = 1 ∨ k = 2) with rfl | rfl | rfl <;> simp [stBeg, stC]
      rw [e]
      simp only [plB, planC, busC, sl, townC, slH, slL, stC]; simp (maxSteps := 4000000) only [go_sem, seval]
      (repeat' (first
 | ((exfalso; omega))
 | refine awp_seqK ?_
 | refine kt ?_
 | refine And.intro ?_ ?_
 | ((first | refine awp_stp rfl ?_ | refine awp_draw (by kernel_rfl) (by kernel_rfl) ?_ | refine Imp.le2 ?_ | refine go_split (fun _h => ?_) (fun _h => ?_)) <;> try simp (maxSteps := 4000000) only [go_sem, seval, hsp])
 | intro _h
 | refine awp_block ?_
 | refine awp_scope ?_
 | refine cond_b ?_ ?_
 | (show heapOK _ _ = true; kernel_rfl)
 | (show heapOK2 _ _ = true; kernel_rfl)
 | (omega)))
      all_goals trace_state
    · subst hk1
      simp only [plB, planC, busC, sl, townC, slH, slL, stC]; simp (maxSteps := 4000000) only [go_sem, seval]
      (repeat' (first
 | ((exfalso; omega))
 | refine awp_seqK ?_
 | refine kt ?_
 | refine And.intro ?_ ?_
 | ((first | refine awp_stp rfl ?_ | refine awp_draw (by kernel_rfl) (by kernel_rfl) ?_ | refine Imp.le2 ?_ | refine go_split (fun _h => ?_) (fun _h => ?_)) <;> try simp (maxSteps := 4000000) only [go_sem, seval])
 | intro _h
 | refine awp_block ?_
 | refine awp_scope ?_
 | refine cond_b ?_ ?_
 | (show heapOK _ _ = true; kernel_rfl)
 | (show heapOK2 _ _ = true; kernel_rfl)
 | (omega)))
      all_goals trace_state
end Go.Am
namespace Go.Am
set_option linter.unusedSimpArgs false
set_option linter.unusedVariables false
def subsR (o m : Nat) : List Nat := subsF o m m
theorem subsR_step {o m : Nat} : subsR o m = m :: if m = 0 then [] else subsR o ((m - 1) &&& o) := by
  unfold subsR
  cases m with
  | zero => simp [subsF]
  | succ k =>
    simp only [subsF, Nat.succ_ne_zero, if_false, Nat.add_one_sub_one]
    have : k &&& o ≤ k := Nat.and_le_left
    rw [subsF_fuel k (k &&& o) (k &&& o) this (Nat.le_refl _)]
theorem subs_R {o : Nat} (h : o < 256) : subs o = subsR o o := subsF_fuel _ _ _ (by omega) (Nat.le_refl _)
def toSt (t : Town) (s : Sta) (m i : Nat) : Sta :=
  ⟨ndiff s.rest m, if i = 0 then s.room i - ppl t (lst m) else s.r0, if i = 1 then s.room i - ppl t (lst m) else s.r1, if i = 2 then s.room i - ppl t (lst m) else s.r2⟩
def fitsB (t : Town) (s : Sta) (m i : Nat) : Bool := decide (ppl t (lst m) ≤ s.room i) && mayB t (mkBus t m i)
def hallsL (t : Town) (s : Sta) (m : Nat) : Nat → Nat → List (Bus × Sta)
  | 0, _ => []
  | f + 1, i => if fitsB t s m i = true then (mkBus t m i, toSt t s m i) :: hallsL t s m f (i + 1) else hallsL t s m f (i + 1)
def candL (t : Town) (s : Sta) : List Nat → List (Bus × Sta)
  | [] => []
  | x :: l => hallsL t s (lowB s.rest ||| x) t.halls.length 0 ++ candL t s l
def othB (m : Nat) : Nat := ndiff m (lowB m)
def nextL (t : Town) (s : Sta) : List (Bus × Sta) := candL t s (subsR (othB s.rest) (othB s.rest))
abbrev Kmap := List (Sta × Int)
def foldM (g : Sta → Kmap → Int × Kmap) : List (Bus × Sta) → Int × Kmap → Int × Kmap
  | [], a => a
  | p :: l, a => foldM g l (min a.1 (1 + (g p.2 a.2).1), (g p.2 a.2).2)
theorem foldM_app {g : Sta → Kmap → Int × Kmap} : ∀ (l l' : List (Bus × Sta)) (a : Int × Kmap), foldM g (l ++ l') a = foldM g l' (foldM g l a)
  | [], l', a => rfl
  | p :: l, l', a => by simp only [List.cons_append, foldM]; exact foldM_app l l' _
def needM (t : Town) : Nat → Sta → Kmap → Int × Kmap
  | 0, _, K => (0, K)
  | f + 1, s, K => if s.rest = 0 then (0, K) else match gmGet K s with
    | some n => (n, K)
    | none => ((foldM (needM t f) (nextL t s) (1000, K)).1, gmPut (foldM (needM t f) (nextL t s) (1000, K)).2 s (foldM (needM t f) (nextL t s) (1000, K)).1)
def foldV (g : Sta → Int) : List (Bus × Sta) → Int → Int
  | [], a => a
  | p :: l, a => foldV g l (min a (1 + g p.2))
def needF (t : Town) : Nat → Sta → Int
  | 0, _ => 0
  | f + 1, s => if s.rest = 0 then 0 else foldV (needF t f) (nextL t s) 1000
def needV (t : Town) (s : Sta) : Int := needF t (s.rest + 1) s
def GoodK (t : Town) (K : Kmap) : Prop := ∀ s n, gmGet K s = some n → n = needV t s
theorem byteb {p : Nat → Bool} (h : (List.range 256).all p = true) {m : Nat} (hm : m < 256) : p m = true := List.all_eq_true.1 h m (by simpa using hm)
theorem low_pos {m : Nat} (hm : m < 256) (h0 : m ≠ 0) : lowB m ≠ 0 := by
  have := byteb (p := fun m => Nat.beq m 0 || !Nat.beq (lowB m) 0) (by kernel_rfl) hm
  simp only [Bool.or_eq_true, Bool.not_eq_true'] at this
  rcases this with h | h
  · exact absurd (Nat.eq_of_beq_eq_true h) h0
  · intro e; rw [e] at h; cases h
theorem low_and {m : Nat} (hm : m < 256) : lowB m &&& m = lowB m := by
  have := byteb (p := fun m => Nat.beq (Nat.land (lowB m) m) (lowB m)) (by kernel_rfl) hm
  exact Nat.eq_of_beq_eq_true this
theorem sub_le {a b : Nat} (h : a &&& b = a) : a ≤ b := by rw [← h]; exact Nat.and_le_right
theorem oth_and {m : Nat} (hm : m < 256) : othB m &&& m = othB m := by
  unfold othB ndiff
  rw [Nat.and_assoc, Nat.and_comm (255 ^^^ lowB m) m, ← Nat.and_assoc, Nat.and_self]
theorem or_and {a b m : Nat} (ha : a &&& m = a) (hb : b &&& m = b) : (a ||| b) &&& m = a ||| b := by
  rw [Nat.and_or_distrib_right, ha, hb]
theorem and_tr {a b c : Nat} (h1 : a &&& b = a) (h2 : b &&& c = b) : a &&& c = a := by
  rw [← h1, Nat.and_assoc, h2]
theorem mask_sub {m x : Nat} (hm : m < 256) (hx : x &&& othB m = x) : (lowB m ||| x) &&& m = lowB m ||| x := or_and (low_and hm) (and_tr hx (oth_and hm))
theorem ndiff_less {r m : Nat} (hr : r < 256) (h0 : r ≠ 0) (x : Nat) (hm : m = lowB r ||| x) : ndiff r m < r := by
  have h1 : ndiff r m &&& r = ndiff r m := by
    unfold ndiff
    rw [Nat.and_assoc, Nat.and_comm (255 ^^^ m) r, ← Nat.and_assoc, Nat.and_self]
  have h2 := sub_le h1
  have hlow := low_pos hr h0
  obtain ⟨i, hi⟩ := Nat.exists_testBit_of_ne_zero hlow
  have hir : r.testBit i = true := by
    have := low_and hr
    rw [← this, Nat.testBit_and, Bool.and_eq_true] at hi
    exact hi.2
  have hi8 : i < 8 := by
    by_cases h : i < 8
    · exact h
    · rw [Nat.testBit_lt_two_pow (Nat.lt_of_lt_of_le hr (show 2 ^ 8 ≤ 2 ^ i from Nat.pow_le_pow_right (by omega) (by omega)))] at hir
      cases hir
  have h3 : ndiff r m ≠ r := by
    intro e
    have h4 := ndiff_bit (a := r) (b := m) hi8
    rw [e, hm, Nat.testBit_or, hi, hir] at h4
    cases h4
  omega
theorem hallsL_rest {t : Town} {s : Sta} {m : Nat} {p : Bus × Sta} : ∀ f i, p ∈ hallsL t s m f i → p.2.rest = ndiff s.rest m
  | 0, _, h => by simp [hallsL] at h
  | f + 1, i, h => by
    simp only [hallsL] at h
    split at h
    · rcases List.mem_cons.1 h with rfl | h
      · rfl
      · exact hallsL_rest f _ h
    · exact hallsL_rest f _ h
theorem candL_rest {t : Town} {s : Sta} {p : Bus × Sta} (hr : s.rest < 256) (h0 : s.rest ≠ 0) : ∀ l, p ∈ candL t s l → p.2.rest < s.rest
  | [], h => by simp [candL] at h
  | x :: l, h => by
    simp only [candL, List.mem_append] at h
    rcases h with h | h
    · rw [hallsL_rest _ _ h]; exact ndiff_less hr h0 x rfl
    · exact candL_rest hr h0 l h
theorem nextL_rest {t : Town} {s : Sta} {p : Bus × Sta} (hr : s.rest < 256) (h0 : s.rest ≠ 0) (h : p ∈ nextL t s) : p.2.rest < s.rest := candL_rest hr h0 _ h
theorem foldV_congr {g g' : Sta → Int} : ∀ (l : List (Bus × Sta)) (a : Int), (∀ p ∈ l, g p.2 = g' p.2) → foldV g l a = foldV g' l a
  | [], a, _ => rfl
  | p :: l, a, h => by
    simp only [foldV]
    rw [h p (by simp)]
    exact foldV_congr l _ (fun q hq => h q (by simp [hq]))
theorem needF_fuel {t : Town} : ∀ (f g : Nat) (s : Sta), s.rest < 256 → s.rest < f → s.rest < g → needF t f s = needF t g s
  | 0, _, s, _, h, _ => by omega
  | f + 1, 0, s, _, _, h => by omega
  | f + 1, g + 1, s, hr, hf, hg => by
    simp only [needF]
    by_cases h0 : s.rest = 0
    · rw [if_pos h0, if_pos h0]
    · rw [if_neg h0, if_neg h0]
      refine foldV_congr _ _ (fun p hp => ?_)
      have := nextL_rest hr h0 hp
      exact needF_fuel f g p.2 (by omega) (by omega) (by omega)
theorem needV_eq {t : Town} {s : Sta} (hr : s.rest < 256) : needV t s = if s.rest = 0 then 0 else foldV (needV t) (nextL t s) 1000 := by
  have e : needV t s = if s.rest = 0 then 0 else foldV (needF t s.rest) (nextL t s) 1000 := rfl
  rw [e]
  by_cases h0 : s.rest = 0
  · rw [if_pos h0, if_pos h0]
  · rw [if_neg h0, if_neg h0]
    refine foldV_congr _ _ (fun p hp => ?_)
    have := nextL_rest hr h0 hp
    show needF t s.rest p.2 = needF t (p.2.rest + 1) p.2
    exact needF_fuel _ _ _ (by omega) (by omega) (by omega)
theorem foldV_bd {g : Sta → Int} : ∀ (l : List (Bus × Sta)) (a : Int), (∀ p ∈ l, 0 ≤ g p.2) → 0 ≤ a ∧ a ≤ 1000 → 0 ≤ foldV g l a ∧ foldV g l a ≤ 1000
  | [], a, _, h => h
  | p :: l, a, hg, h => by
    simp only [foldV]
    have := hg p (by simp)
    exact foldV_bd l _ (fun q hq => hg q (by simp [hq])) (by omega)
theorem needF_bd {t : Town} : ∀ (f : Nat) (s : Sta), 0 ≤ needF t f s ∧ needF t f s ≤ 1000
  | 0, s => by simp [needF]
  | f + 1, s => by
    simp only [needF]
    split
    · simp
    · exact foldV_bd _ _ (fun p _ => (needF_bd f p.2).1) (by simp)
theorem needV_bd {t : Town} {s : Sta} : 0 ≤ needV t s ∧ needV t s ≤ 1000 := needF_bd _ _
theorem gmGet_put {K : Kmap} {s s' : Sta} {n : Int} : gmGet (gmPut K s n) s' = if s = s' then some n else gmGet K s' := by
  induction K with
  | nil => simp [gmPut, gmGet]
  | cons e K ih =>
    simp only [gmPut]
    by_cases h : e.1 = s
    · subst h
      simp only [if_true, gmGet]
      by_cases h2 : e.1 = s'
      · simp [h2]
      · simp [h2]
    · rw [if_neg h]
      simp only [gmGet]
      by_cases h2 : e.1 = s'
      · subst h2; simp [Ne.symm h]
      · rw [if_neg h2, if_neg h2, ih]
theorem GoodK.put {t : Town} {K : Kmap} {s : Sta} {n : Int} (h : GoodK t K) (hn : n = needV t s) : GoodK t (gmPut K s n) := fun s' n' e => by
  rw [gmGet_put] at e
  by_cases h2 : s = s'
  · subst h2; simp at e; omega
  · rw [if_neg h2] at e; exact h s' n' e
theorem GoodK.nil {t : Town} : GoodK t [] := fun s n e => by simp [gmGet] at e
theorem foldM_good {t : Town} {f : Nat} {r : Nat} (ih : ∀ s K, s.rest < 256 → s.rest < r → GoodK t K → (needM t f s K).1 = needV t s ∧ GoodK t (needM t f s K).2) (hr : r ≤ 256) : ∀ (l : List (Bus × Sta)) (a : Int × Kmap), (∀ p ∈ l, p.2.rest < r) → GoodK t a.2 →
    (foldM (needM t f) l a).1 = foldV (needV t) l a.1 ∧ GoodK t (foldM (needM t f) l a).2
  | [], a, _, h => ⟨rfl, h⟩
  | p :: l, a, hl, h => by
    simp only [foldM, foldV]
    obtain ⟨h1, h2⟩ := ih p.2 a.2 (by have := hl p (by simp); omega) (hl p (by simp)) h
    have := foldM_good ih hr l (min a.1 (1 + (needM t f p.2 a.2).1), (needM t f p.2 a.2).2) (fun q hq => hl q (by simp [hq])) h2
    rw [h1] at this
    rw [h1]; exact this
theorem needM_good {t : Town} : ∀ (f : Nat) (s : Sta) (K : Kmap), s.rest < 256 → s.rest < f → GoodK t K → (needM t f s K).1 = needV t s ∧ GoodK t (needM t f s K).2
  | 0, s, K, _, h, _ => by omega
  | f + 1, s, K, hr, hf, hK => by
    simp only [needM]
    rw [needV_eq hr]
    by_cases h0 : s.rest = 0
    · rw [if_pos h0, if_pos h0]; exact ⟨rfl, hK⟩
    · rw [if_neg h0, if_neg h0]
      cases hg : gmGet K s with
      | some n =>
        have := hK s n hg
        rw [needV_eq hr, if_neg h0] at this
        exact ⟨this, hK⟩
      | none =>
        have := foldM_good (t := t) (f := f) (r := s.rest) (fun s' K' h1 h2 h3 => needM_good f s' K' h1 (by omega) h3) (by omega) (nextL t s) (1000, K) (fun p hp => nextL_rest hr h0 hp) hK
        refine ⟨this.1, this.2.put ?_⟩
        rw [this.1, needV_eq hr, if_neg h0]
end Go.Am
namespace Go.Am
open Go.RowKit Go.Proofs
attribute [local irreducible] AWP CallS Kt goK CallK stepK evOps SemF SemY Imp
set_option maxRecDepth 4000
set_option linter.unusedSimpArgs false
set_option linter.unusedVariables false
set_option maxHeartbeats 1600000
theorem tkb121 : tkb Tryz.prog 121 = some [false, false, false, false] := by kernel_rfl
theorem keyT {a b c d : Int} : keyOK Tryz.prog 121 (.agg [.int .u8 a, .int .i64 b, .int .i64 c, .int .i64 d]) := ⟨eqOK 121, tkb121⟩
theorem mup_st {m : Kmap} {s : Sta} {v : Int} {f : List (AV × AV) → Prop} : mupK (kmC m) (.agg [.int .u8 s.rest, .int .i64 s.r0, .int .i64 s.r1, .int .i64 s.r2]) (.int .i64 v) f = f (kmC (gmPut m s v)) := mup_km
structure StOK (t : Town) (s : Sta) : Prop where
  rest : s.rest < 2 ^ t.homes.length
  room : ∀ i, 0 ≤ s.room i ∧ s.room i ≤ 2000
attribute [go_sem] nth_room
theorem next_c (t : Town) (s : Sta) (K : Kmap) : SemF Tryz.prog 43 [.ptr 0 0 0, .agg (stC s)] [plB t 1, some (.map (kmC K))] (.fn (.func 68) [] [.ptr 3 0 0, .ptr 2 0 0]) [plB t 1, some (.map (kmC K)), some (.cells 116 1 0 [.ptr 0 0 0]), some (.cells 121 1 0 (stC s))] := by
  simp only [plB, planC, busC, sl, townC, slH, slL, stC]
  (refine semF_of_awp (ys := [.fn (.func 68) [] [.ptr 3 0 0, .ptr 2 0 0]]) (fun w args => Tryz.call43 ..) Tryz.func43 rfl (fun w0 m0 wz => ?_); simp only [Tryz.ntmps43, Tryz.results43, initT, junks, homeC, hallC, slH, slL, townC, sl, List.toList_toArray, List.cons_append, List.nil_append, List.length_cons, List.length_nil, Nat.reduceAdd, Nat.reduceSub])
  (repeat' (first
 | refine awp_seqK ?_
 | refine kt ?_
 | refine And.intro ?_ ?_
 | ((first | refine awp_stp rfl ?_ | refine awp_draw (by kernel_rfl) (by kernel_rfl) ?_ | refine Imp.le2 ?_ | refine go_split (fun _h => ?_) (fun _h => ?_)) <;> try simp (maxSteps := 4000000) only [go_sem, seval])
 | intro _h
 | refine awp_block ?_
 | refine awp_scope ?_
 | refine cond_b ?_ ?_
 | (show heapOK _ _ = true; kernel_rfl)
 | (show heapOK2 _ _ = true; kernel_rfl)
 | (omega)))
def nH (t : Town) (s : Sta) (n : Int) (K : Kmap) : List (Option ABlk) :=
  [plB t 1, some (.map (kmC K)), some (.cells 116 1 0 [.ptr 0 0 0]), some (.cells 123 1 0 [.fn (.func 66) [] [.ptr 2 0 0, .ptr 3 0 0]]), some (.cells 121 1 0 (stC s)), some (.cells 3 1 0 [.int .i64 n]), some (.cells 116 1 0 [.ptr 0 0 0]), some (.cells 121 1 0 (stC s))]
def nT : List AV := mkT 43 [(1, .ptr 2 0 0), (2, .ptr 3 0 0), (3, .ptr 4 0 0), (7, .ptr 5 0 0), (26, .fn (.func 68) [] [.ptr 7 0 0, .ptr 6 0 0])]
def h74 (t : Town) (K : Kmap) : List (Option ABlk) := [plB t 1, some (.map (kmC K)), some (.cells 116 1 0 [.ptr 0 0 0]), some (.cells 123 1 0 [.fn (.func 66) [] [.ptr 2 0 0, .ptr 3 0 0]])]
theorem need_c (t : Town) (ht : TownOK t) : ∀ (f : Nat) (s : Sta) (K : Kmap), StOK t s → s.rest < f → GoodK t K →
    SemF Tryz.prog 66 [.agg (stC s), .ptr 2 0 0, .ptr 3 0 0] (h74 t K) (.int .i64 (needM t f s K).1) (h74 t (needM t f s K).2) := by
  intro f
  induction f with
  | zero => intro s K _ h _; omega
  | succ f ih =>
    intro s K hs hf hK
    by_cases h0 : s.rest = 0
    · have e : needM t (f + 1) s K = (0, K) := by simp only [needM]; rw [if_pos h0]
      rw [e]
      have e0 : ((s.rest : Int) = 0) = True := eq_true (by omega)
      simp only [h74, plB, planC, busC, sl, townC, slH, slL, stC]
      (refine semF_of_awp (ys := [.int .i64 0]) (fun w args => Tryz.call66 ..) Tryz.func66 rfl (fun w0 m0 wz => ?_); simp only [Tryz.ntmps66, Tryz.results66, initT, junks, homeC, hallC, slH, slL, townC, sl, List.toList_toArray, List.cons_append, List.nil_append, List.length_cons, List.length_nil, Nat.reduceAdd, Nat.reduceSub])
      (repeat' (first
 | refine awp_seqK ?_
 | refine kt ?_
 | refine And.intro ?_ ?_
 | ((first | refine awp_stp rfl ?_ | refine awp_draw (by kernel_rfl) (by kernel_rfl) ?_ | refine Imp.le2 ?_ | refine go_split (fun _h => ?_) (fun _h => ?_)) <;> try simp (maxSteps := 4000000) only [go_sem, seval, e0, decide_true])
 | intro _h
 | refine awp_block ?_
 | refine awp_scope ?_
 | refine cond_b ?_ ?_
 | (show heapOK _ _ = true; kernel_rfl)
 | (show heapOK2 _ _ = true; kernel_rfl)
 | (omega)))
    · have e0 : ((s.rest : Int) = 0) = False := eq_false (by omega)
      cases hg : gmGet K s with
      | some n =>
        have e : needM t (f + 1) s K = (n, K) := by simp only [needM]; rw [if_neg h0]; simp [hg]
        rw [e]
        have hmg := fun z (f : AV → Bool → Prop) => mget_ks (z := z) (f := f) hg
        simp only [h74, plB, planC, busC, sl, townC, slH, slL, stC] at hmg ⊢
        (refine semF_of_awp (ys := [.int .i64 n]) (fun w args => Tryz.call66 ..) Tryz.func66 rfl (fun w0 m0 wz => ?_); simp only [Tryz.ntmps66, Tryz.results66, initT, junks, homeC, hallC, slH, slL, townC, sl, List.toList_toArray, List.cons_append, List.nil_append, List.length_cons, List.length_nil, Nat.reduceAdd, Nat.reduceSub])
        (repeat' (first
 | ((show zeroOK _ = true; rfl))
 | ((exact keyT))
 | refine awp_seqK ?_
 | refine kt ?_
 | refine And.intro ?_ ?_
 | ((first | refine awp_stp rfl ?_ | refine awp_draw (by kernel_rfl) (by kernel_rfl) ?_ | refine Imp.le2 ?_ | refine go_split (fun _h => ?_) (fun _h => ?_)) <;> try simp (maxSteps := 4000000) only [go_sem, seval, e0, decide_false, hmg])
 | intro _h
 | refine awp_block ?_
 | refine awp_scope ?_
 | refine cond_b ?_ ?_
 | (show heapOK _ _ = true; kernel_rfl)
 | (show heapOK2 _ _ = true; kernel_rfl)
 | (omega)))
      | none =>
        have hmg := fun z (f : AV → Bool → Prop) => mget_kn (z := z) (f := f) hg
        have e : needM t (f + 1) s K = ((foldM (needM t f) (nextL t s) (1000, K)).1, gmPut (foldM (needM t f) (nextL t s) (1000, K)).2 s (foldM (needM t f) (nextL t s) (1000, K)).1) := by simp only [needM]; rw [if_neg h0]; simp [hg]
        rw [e]
        have hnx := next_c t s K
        have hln := ht.homes
        have hhl := ht.halls
        have hr8 : s.rest < 256 := Nat.lt_of_lt_of_le hs.rest (show 2 ^ t.homes.length ≤ 2 ^ 8 from Nat.pow_le_pow_right (by omega) (by omega))
        have e1 := low_nat hr8
        have e2 : andn s.rest (lowB s.rest : Nat) = ((othB s.rest : Nat) : Int) := andn_nat2 hr8 (lowB_lt hr8)
        generalize hE : foldM (needM t f) (nextL t s) (1000, K) = E
        obtain ⟨nE, KE⟩ := E
        simp only
        simp only [h74, plB, planC, busC, sl, townC, slH, slL, stC] at hmg hnx ⊢
        (refine semF_of_awp (ys := [.int .i64 nE]) (fun w args => Tryz.call66 ..) Tryz.func66 rfl (fun w0 m0 wz => ?_); simp only [Tryz.ntmps66, Tryz.results66, initT, junks, homeC, hallC, slH, slL, townC, sl, List.toList_toArray, List.cons_append, List.nil_append, List.length_cons, List.length_nil, Nat.reduceAdd, Nat.reduceSub])
        (repeat' (first
 | ((show zeroOK _ = true; rfl))
 | ((exact keyT))
 | (refine awp_ownN 2 rfl ?_; simp (maxSteps := 4000000) only [go_sem, seval, List.take_succ_cons, List.take_zero, e0, decide_false, hmg]; (repeat refine And.intro (by omega) ?_); refine own_go (hnx) [0, 1] rfl ?_ ?_ rfl ?_ <;> try simp (maxSteps := 4000000) only [go_sem, seval, Nat.lt_irrefl, e0, decide_false, hmg] <;> try decide)
 | refine awp_seqK ?_
 | refine kt ?_
 | refine And.intro ?_ ?_
 | ((first | refine awp_stp rfl ?_ | refine awp_draw (by kernel_rfl) (by kernel_rfl) ?_ | refine Imp.le2 ?_ | refine go_split (fun _h => ?_) (fun _h => ?_)) <;> try simp (maxSteps := 4000000) only [go_sem, seval, e0, decide_false, hmg])
 | intro _h
 | refine awp_block ?_
 | refine awp_scope ?_
 | refine cond_b ?_ ?_
 | (show heapOK _ _ = true; kernel_rfl)
 | (show heapOK2 _ _ = true; kernel_rfl)
 | (omega)))
        refine AWP.le2 (s' := ⟨nT, nH t s 1000 K, []⟩) (by simp only [nT, nH, plB, planC, busC, sl, townC, slH, slL, stC]; simp (maxSteps := 4000000) only [go_sem, seval]) ?_
        refine awp_rangeZ (gf := 68) (first := []) (caps := [.ptr 7 0 0, .ptr 6 0 0]) (by simp only [nT]; simp (maxSteps := 4000000) only [go_sem, seval]) 8 rfl ?_
        intro ca cb hca hcb
        refine ⟨.tup [], nH t s nE KE ++ [some (.dfr true), some (.loop .ready none 0 nT #[27, 28] ca cb 8)], .ready, none, .normal, ?_, ?_, by simp, rfl, ?_⟩
        · simp only [nH, nT, plB, planC, busC, sl, townC, slH, slL, stC]
          simp (maxSteps := 4000000) only [go_sem, seval]
          (refine semF_of_awp (ys := []) (fun w args => Tryz.call68 ..) Tryz.func68 rfl (fun w0 m0 wz => ?_); simp only [Tryz.ntmps68, Tryz.results68, initT, junks, homeC, hallC, slH, slL, townC, sl, List.toList_toArray, List.cons_append, List.nil_append, List.length_cons, List.length_nil, Nat.reduceAdd, Nat.reduceSub])
          (repeat' (first
 | refine awp_seqK ?_
 | refine kt ?_
 | refine And.intro ?_ ?_
 | ((first | refine awp_stp rfl ?_ | refine awp_draw (by kernel_rfl) (by kernel_rfl) ?_ | refine Imp.le2 ?_ | refine go_split (fun _h => ?_) (fun _h => ?_)) <;> try simp (maxSteps := 4000000) only [go_sem, seval, e1, e2])
 | intro _h
 | refine awp_block ?_
 | refine awp_scope ?_
 | refine cond_b ?_ ?_
 | (show heapOK _ _ = true; kernel_rfl)
 | (show heapOK2 _ _ = true; kernel_rfl)
 | (omega)))
          refine awp_loopJ (fun x : Nat × Int × Kmap => x.1 &&& othB s.rest = x.1 ∧ (0 ≤ x.2.1 ∧ x.2.1 ≤ 1000) ∧ GoodK t x.2.2 ∧ foldM (needM t f) (candL t s (subsR (othB s.rest) x.1)) x.2 = (nE, KE))
            (fun x => ⟨mkT 79 [(0, .fn (.yield 9) [] []), (1, .ptr 7 0 0), (2, .ptr 6 0 0), (4, .int .u8 (lowB s.rest : Nat)), (5, .int .u8 (othB s.rest : Nat)), (6, .int .u8 (x.1 : Nat))], nH t s x.2.1 x.2.2 ++ [some (.dfr true), some (.loop .ready none 0 nT #[27, 28] ca cb 8)], []⟩) (fun x => x.1) (othB s.rest, 1000, K) ⟨Nat.and_self _, by simp, hK, hE⟩ (.le2 ?_) ?_
          · simp only [nH, nT, plB, planC, busC, sl, townC, slH, slL, stC]; simp (maxSteps := 4000000) only [go_sem, seval]
            try (first | rfl | exact ⟨rfl, rfl⟩)
          · rintro ⟨x, n, K1⟩ ⟨hx, hn, hK1, hF⟩
            simp only at hx hn hK1 hF
            rw [subsR_step] at hF
            simp only [candL] at hF
            have hx8 : x < 256 := by have := sub_le hx; have := ndiff_lt (b := lowB s.rest) hr8; unfold othB at *; omega
            have hmk := mask_sub hr8 hx
            have hmk2 := sub_le hmk
            have e3 : u8or (lowB s.rest : Nat) (x : Nat) = ((lowB s.rest ||| x : Nat) : Int) := u8or_nat (lowB_lt hr8) hx8
            generalize hM : lowB s.rest ||| x = M at *
            have e4 : andn s.rest M = ((ndiff s.rest M : Nat) : Int) := andn_nat2 hr8 (by omega)
            simp only [nH, nT, plB, planC, busC, sl, townC, slH, slL, stC]; simp (maxSteps := 4000000) only [go_sem, seval]
            (repeat' (first
 | refine awp_seqK ?_
 | refine kt ?_
 | refine And.intro ?_ ?_
 | ((first | refine awp_stp rfl ?_ | refine awp_draw (by kernel_rfl) (by kernel_rfl) ?_ | refine Imp.le2 ?_ | refine go_split (fun _h => ?_) (fun _h => ?_)) <;> try simp (maxSteps := 4000000) only [go_sem, seval])
 | intro _h
 | refine awp_block ?_
 | refine awp_scope ?_
 | refine cond_b ?_ ?_
 | (show heapOK _ _ = true; kernel_rfl)
 | (show heapOK2 _ _ = true; kernel_rfl)
 | (omega)))
            refine awp_loopJ (fun y : Nat × Int × Kmap => y.1 ≤ t.halls.length ∧ (0 ≤ y.2.1 ∧ y.2.1 ≤ 1000) ∧ GoodK t y.2.2 ∧ foldM (needM t f) (hallsL t s M (t.halls.length - y.1) y.1 ++ candL t s (if x = 0 then [] else subsR (othB s.rest) ((x - 1) &&& othB s.rest))) y.2 = (nE, KE))
              (fun y => ⟨mkT 79 [(0, .fn (.yield 9) [] []), (1, .ptr 7 0 0), (2, .ptr 6 0 0), (4, .int .u8 (lowB s.rest : Nat)), (5, .int .u8 (othB s.rest : Nat)), (6, .int .u8 (x : Nat)), (31, .int .i64 t.halls.length), (32, .int .i64 y.1)], nH t s y.2.1 y.2.2 ++ [some (.dfr true), some (.loop .ready none 0 nT #[27, 28] ca cb 8)], []⟩) (fun y => t.halls.length - y.1) (0, n, K1) ⟨Nat.zero_le _, hn, hK1, hF⟩ (.le2 ?_) ?_
            · simp only [nH, nT, plB, planC, busC, sl, townC, slH, slL, stC]; simp (maxSteps := 4000000) only [go_sem, seval]
              try (first | rfl | exact ⟨rfl, rfl⟩)
            · rintro ⟨i, n, K1⟩ ⟨hi, hn, hK1, hF⟩
              simp only at hi hn hK1 hF
              rcases Nat.lt_or_eq_of_le hi with hi1 | hi1
              · rw [show t.halls.length - i = (t.halls.length - (i + 1)) + 1 by omega] at hF
                simp only [hallsL] at hF
                have hmask : M < 2 ^ t.homes.length := by have := hs.rest; omega
                have hbus := bus_c t M i K1 ht hmask
                have hin := lst_in hmask hln.2
                have hl8 : (lst M).length ≤ 8 := lstN_le 8
                have hbI : BusIn t (mkBus t M i) := ⟨hin, ⟨by simp [mkBus], by simp [mkBus]; omega⟩, by have := leaveL_bd ht hin (lst M).length (Nat.le_refl _); simp only [mkBus]; omega, by simp only [mkBus]; omega⟩
                have hpe := people_c t (mkBus t M i) K1 ht hbI.homes hbI.len
                have hma := may_c t (mkBus t M i) K1 ht hbI
                have hpb := pplL_bd ht hin (lst M).length (Nat.le_refl _)
                have hpl : ppl t (mkBus t M i).homes = ppl t (lst M) := rfl
                have hpl2 : pplL t (lst M) (lst M).length = ppl t (lst M) := rfl
                rw [hpl] at hpe
                rw [hpl2] at hpb
                have hfit : fitsB t s M i = (decide (ppl t (lst M) ≤ s.room i) && mayB t (mkBus t M i)) := rfl
                have hrm : (if i = 0 then s.r0 else if i = 1 then s.r1 else s.r2) = s.room i := rfl
                have hrb := hs.room i
                have hi3 : i < 3 := by omega
                have hsp := fun (x : AV) (a b c v : Int) => sp_room (x := x) (a := a) (b := b) (c := c) (v := v) hi3
                have hr0 : (if i = 0 then s.room i - ppl t (lst M) else s.r0) = (toSt t s M i).r0 := rfl
                have hr1 : (if i = 1 then s.room i - ppl t (lst M) else s.r1) = (toSt t s M i).r1 := rfl
                have hr2 : (if i = 2 then s.room i - ppl t (lst M) else s.r2) = (toSt t s M i).r2 := rfl
                have hto : (toSt t s M i).rest = ndiff s.rest M := rfl
                have htl : ndiff s.rest M < s.rest := ndiff_less hr8 h0 x hM.symm
                have hroom : ppl t (lst M) ≤ s.room i → ∀ j, 0 ≤ (toSt t s M i).room j ∧ (toSt t s M i).room j ≤ 2000 := fun h j => by
                  have h1 := hs.room 0
                  have h2 := hs.room 1
                  have h3 := hs.room 2
                  have h4 := hs.room i
                  simp only [toSt, Sta.room] at h h1 h2 h3 h4 ⊢
                  simp only [Nat.succ_ne_zero, if_true, if_false, reduceIte, Nat.reduceEqDiff, Nat.one_ne_zero] at h1 h2 h3
                  rcases (by omega : i = 0 ∨ i = 1 ∨ i = 2) with rfl | rfl | rfl <;> simp at h h4 ⊢ <;> (split <;> (try split) <;> omega)
                rw [← hto] at e4 htl
                clear hpl hpl2
                generalize mkBus t M i = b at *
                generalize toSt t s M i = to at *
                generalize ppl t (lst M) = pp at *
                have key : (pp ≤ s.room i ∧ mayB t b = true ∧ fitsB t s M i = true) ∨ (pp ≤ s.room i ∧ mayB t b = false ∧ fitsB t s M i = false) ∨ (¬ pp ≤ s.room i ∧ fitsB t s M i = false) := by
                  rw [hfit]
                  by_cases h1 : pp ≤ s.room i
                  · cases h2 : mayB t b
                    · exact .inr (.inl ⟨h1, rfl, by simp⟩)
                    · exact .inl ⟨h1, rfl, by simp [h1]⟩
                  · exact .inr (.inr ⟨h1, by simp [h1]⟩)
                rcases key with ⟨k1, k2, k3⟩ | ⟨k1, k2, k3⟩ | ⟨k1, k3⟩
                · rw [if_pos k3] at hF
                  have eR : (pp ≤ s.room i) = True := eq_true k1
                  have hsto : StOK t to := ⟨by rw [hto] at htl ⊢; have := hs.rest; omega, hroom k1⟩
                  have hih := ih to K1 hsto (by omega) hK1
                  obtain ⟨hg1, hg2⟩ := needM_good f to K1 (by omega) (by omega) hK1
                  have hvb := needV_bd (t := t) (s := to)
                  rw [← hg1] at hvb
                  simp only [List.cons_append, foldM] at hF
                  generalize needM t f to K1 = R at *
                  obtain ⟨v, K2⟩ := R
                  simp only at hF hih hg1 hg2 hvb
                  rw [k2] at hma
                  simp only [h74, nH, nT, plB, planC, busC, sl, townC, slH, slL, stC] at hbus hpe hma hih ⊢
                  simp (maxSteps := 4000000) only [go_sem, seval]
                  (repeat' (first
 | (refine awp_ownN 5 rfl ?_; simp (maxSteps := 4000000) only [go_sem, seval, List.take_succ_cons, List.take_zero, e3, e4, hrm, eR, decide_true, hsp, hr0, hr1, hr2]; (repeat refine And.intro (by omega) ?_); refine own_go (hbus) [0, 1] rfl ?_ ?_ rfl ?_ <;> try simp (maxSteps := 4000000) only [go_sem, seval, Nat.lt_irrefl, e3, e4, hrm, eR, decide_true, hsp, hr0, hr1, hr2] <;> try decide)
 | (refine awp_ownN 2 rfl ?_; simp (maxSteps := 4000000) only [go_sem, seval, List.take_succ_cons, List.take_zero, e3, e4, hrm, eR, decide_true, hsp, hr0, hr1, hr2]; (repeat refine And.intro (by omega) ?_); refine own_go (hpe) [0, 1] rfl ?_ ?_ rfl ?_ <;> try simp (maxSteps := 4000000) only [go_sem, seval, Nat.lt_irrefl, e3, e4, hrm, eR, decide_true, hsp, hr0, hr1, hr2] <;> try decide)
 | (refine awp_ownN (id := 9) 9 rfl ?_; simp (maxSteps := 4000000) only [go_sem, seval, List.take_succ_cons, List.take_zero, e3, e4, hrm, eR, decide_true, hsp, hr0, hr1, hr2])
 | (refine own_go (hma) [0, 1] rfl ?_ ?_ rfl ?_ <;> try simp (maxSteps := 4000000) only [go_sem, seval, Nat.lt_irrefl, e3, e4, hrm, eR, decide_true, hsp, hr0, hr1, hr2] <;> try decide)
 | ((exfalso; omega))
 | ((refine awp_ownN 3 rfl ?_; simp (maxSteps := 4000000) only [go_sem, seval, List.take_succ_cons, List.take_zero]; refine callH_yield true (nH t s (min n (1 + v)) K2 ++ [some (.dfr true), some (.loop .ready none 0 nT #[27, 28] ca cb 8), some (.cells 87 1 0 (busC b)), some (.cells 121 1 0 (stC to))]) ?_ ?_ <;> simp only [nH, nT, plB, planC, busC, sl, townC, slH, slL, stC] <;> (try simp (maxSteps := 4000000) only [go_sem, seval])))
 | refine awp_seqK ?_
 | refine kt ?_
 | refine And.intro ?_ ?_
 | ((first | refine awp_stp rfl ?_ | refine awp_draw (by kernel_rfl) (by kernel_rfl) ?_ | refine Imp.le2 ?_ | refine go_split (fun _h => ?_) (fun _h => ?_)) <;> try simp (maxSteps := 4000000) only [go_sem, seval, e3, e4, hrm, eR, decide_true, hsp, hr0, hr1, hr2])
 | intro _h
 | refine awp_block ?_
 | refine awp_scope ?_
 | refine cond_b ?_ ?_
 | (show heapOK _ _ = true; kernel_rfl)
 | (show heapOK2 _ _ = true; kernel_rfl)
 | (omega)))
                  · refine semY_of_awpZ rfl rfl ?_
                    intro B w0 l m w
                    refine awp_code hca ?_
                    (repeat' (first
 | refine awp_seqK ?_
 | refine kt ?_
 | refine And.intro ?_ ?_
 | ((first | refine awp_stp rfl ?_ | refine awp_draw (by kernel_rfl) (by kernel_rfl) ?_ | refine Imp.le2 ?_ | refine go_split (fun _h => ?_) (fun _h => ?_)) <;> try simp (maxSteps := 4000000) only [go_sem, seval])
 | intro _h
 | refine awp_block ?_
 | refine awp_scope ?_
 | refine cond_b ?_ ?_
 | (show heapOK _ _ = true; kernel_rfl)
 | (show heapOK2 _ _ = true; kernel_rfl)
 | (omega)))
                    refine awp_code hcb ?_
                    (repeat' (first
 | refine awp_seqK ?_
 | refine kt ?_
 | refine And.intro ?_ ?_
 | ((first | refine awp_stp rfl ?_ | refine Imp.le2 ?_ | refine go_split (fun _h => ?_) (fun _h => ?_)) <;> try simp (maxSteps := 4000000) only [go_sem, seval])
 | intro _h
 | refine awp_block ?_
 | refine awp_scope ?_
 | refine cond_b ?_ ?_
 | (show heapOK _ _ = true; kernel_rfl)
 | (show heapOK2 _ _ = true; kernel_rfl)
 | (omega)))
                    ((repeat refine awp_seqK ?_); refine awp_draws [(3, [1])] (by kernel_rfl) (by kernel_rfl) ?_; simp (maxSteps := 4000000) only [go_sem, seval, sg_cons, sg_nil, List.take_succ_cons, List.take_zero, List.drop_succ_cons, List.drop_zero])
                    (refine own_go (hih) [0, 1, 2, 3] rfl (by simp (maxSteps := 4000000) only [go_sem, seval]) (by simp (maxSteps := 4000000) only [go_sem, seval, Nat.lt_irrefl] <;> decide) rfl ?_; simp (maxSteps := 4000000) only [go_sem, seval]; refine And.intro (frm_of (by repeat (first | exact rfl | exact ⟨_, rfl⟩ | refine And.intro ?_ ?_))) ?_; try simp (maxSteps := 4000000) only [go_sem, seval, sg_cons, sg_nil, List.take_succ_cons, List.take_zero, List.drop_succ_cons, List.drop_zero])
                    (repeat' (first
 | refine awp_seqK ?_
 | refine kt ?_
 | refine And.intro ?_ ?_
 | ((first | refine awp_stp rfl ?_ | refine awp_draw (by kernel_rfl) (by kernel_rfl) ?_ | refine Imp.le2 ?_ | refine callK_of (earliest_c _ _ _) ?_ | refine go_split (fun _h => ?_) (fun _h => ?_)) <;> try simp (maxSteps := 4000000) only [go_sem, seval])
 | intro _h
 | refine awp_block ?_
 | refine awp_scope ?_
 | refine cond_b ?_ ?_
 | (show heapOK _ _ = true; kernel_rfl)
 | (show heapOK2 _ _ = true; kernel_rfl)
 | (omega)))
                  · refine ⟨(i + 1, min n (1 + v), K2), ⟨by simp only; omega, by simp only; omega, hg2, hF⟩, by simp only; omega, .le2 ?_⟩
                    simp only [nH, nT, plB, planC, busC, sl, townC, slH, slL, stC]; simp (maxSteps := 4000000) only [go_sem, seval]
                    try (first | rfl | exact ⟨rfl, rfl⟩)
                · rw [if_neg (by rw [k3]; simp)] at hF
                  have eR : (pp ≤ s.room i) = True := eq_true k1
                  rw [k2] at hma
                  simp only [nH, nT, plB, planC, busC, sl, townC, slH, slL, stC] at hbus hpe hma ⊢
                  simp (maxSteps := 4000000) only [go_sem, seval]
                  (repeat' (first
 | (refine awp_ownN 5 rfl ?_; simp (maxSteps := 4000000) only [go_sem, seval, List.take_succ_cons, List.take_zero, e3, e4, hrm, eR, decide_true]; (repeat refine And.intro (by omega) ?_); refine own_go (hbus) [0, 1] rfl ?_ ?_ rfl ?_ <;> try simp (maxSteps := 4000000) only [go_sem, seval, Nat.lt_irrefl, e3, e4, hrm, eR, decide_true] <;> try decide)
 | (refine awp_ownN 2 rfl ?_; simp (maxSteps := 4000000) only [go_sem, seval, List.take_succ_cons, List.take_zero, e3, e4, hrm, eR, decide_true]; (repeat refine And.intro (by omega) ?_); refine own_go (hpe) [0, 1] rfl ?_ ?_ rfl ?_ <;> try simp (maxSteps := 4000000) only [go_sem, seval, Nat.lt_irrefl, e3, e4, hrm, eR, decide_true] <;> try decide)
 | (refine awp_ownN (id := 9) 9 rfl ?_; simp (maxSteps := 4000000) only [go_sem, seval, List.take_succ_cons, List.take_zero, e3, e4, hrm, eR, decide_true])
 | (refine own_go (hma) [0, 1] rfl ?_ ?_ rfl ?_ <;> try simp (maxSteps := 4000000) only [go_sem, seval, Nat.lt_irrefl, e3, e4, hrm, eR, decide_true] <;> try decide)
 | ((exfalso; omega))
 | refine awp_seqK ?_
 | refine kt ?_
 | refine And.intro ?_ ?_
 | ((first | refine awp_stp rfl ?_ | refine awp_draw (by kernel_rfl) (by kernel_rfl) ?_ | refine Imp.le2 ?_ | refine go_split (fun _h => ?_) (fun _h => ?_)) <;> try simp (maxSteps := 4000000) only [go_sem, seval, e3, e4, hrm, eR, decide_true])
 | intro _h
 | refine awp_block ?_
 | refine awp_scope ?_
 | refine cond_b ?_ ?_
 | (show heapOK _ _ = true; kernel_rfl)
 | (show heapOK2 _ _ = true; kernel_rfl)
 | (omega)))
                  refine ⟨(i + 1, n, K1), ⟨by simp only; omega, hn, hK1, hF⟩, by simp only; omega, .le2 ?_⟩
                  simp only [nH, nT, plB, planC, busC, sl, townC, slH, slL, stC]; simp (maxSteps := 4000000) only [go_sem, seval]
                  try (first | rfl | exact ⟨rfl, rfl⟩)
                · rw [if_neg (by rw [k3]; simp)] at hF
                  have eR : (pp ≤ s.room i) = False := eq_false k1
                  simp only [nH, nT, plB, planC, busC, sl, townC, slH, slL, stC] at hbus hpe hma ⊢
                  simp (maxSteps := 4000000) only [go_sem, seval]
                  (repeat' (first
 | (refine awp_ownN 5 rfl ?_; simp (maxSteps := 4000000) only [go_sem, seval, List.take_succ_cons, List.take_zero, e3, e4, hrm, eR, decide_false]; (repeat refine And.intro (by omega) ?_); refine own_go (hbus) [0, 1] rfl ?_ ?_ rfl ?_ <;> try simp (maxSteps := 4000000) only [go_sem, seval, Nat.lt_irrefl, e3, e4, hrm, eR, decide_false] <;> try decide)
 | (refine awp_ownN 2 rfl ?_; simp (maxSteps := 4000000) only [go_sem, seval, List.take_succ_cons, List.take_zero, e3, e4, hrm, eR, decide_false]; (repeat refine And.intro (by omega) ?_); refine own_go (hpe) [0, 1] rfl ?_ ?_ rfl ?_ <;> try simp (maxSteps := 4000000) only [go_sem, seval, Nat.lt_irrefl, e3, e4, hrm, eR, decide_false] <;> try decide)
 | ((exfalso; omega))
 | refine awp_seqK ?_
 | refine kt ?_
 | refine And.intro ?_ ?_
 | ((first | refine awp_stp rfl ?_ | refine awp_draw (by kernel_rfl) (by kernel_rfl) ?_ | refine Imp.le2 ?_ | refine go_split (fun _h => ?_) (fun _h => ?_)) <;> try simp (maxSteps := 4000000) only [go_sem, seval, e3, e4, hrm, eR, decide_false])
 | intro _h
 | refine awp_block ?_
 | refine awp_scope ?_
 | refine cond_b ?_ ?_
 | (show heapOK _ _ = true; kernel_rfl)
 | (show heapOK2 _ _ = true; kernel_rfl)
 | (omega)))
                  refine ⟨(i + 1, n, K1), ⟨by simp only; omega, hn, hK1, hF⟩, by simp only; omega, .le2 ?_⟩
                  simp only [nH, nT, plB, planC, busC, sl, townC, slH, slL, stC]; simp (maxSteps := 4000000) only [go_sem, seval]
                  try (first | rfl | exact ⟨rfl, rfl⟩)
              · subst hi1
                rw [Nat.sub_self] at hF
                simp only [hallsL, List.nil_append] at hF
                by_cases hx0 : x = 0
                · subst hx0
                  rw [if_pos rfl] at hF
                  simp only [candL, foldM, Prod.mk.injEq] at hF
                  obtain ⟨rfl, rfl⟩ := hF
                  simp only [nH, nT, plB, planC, busC, sl, townC, slH, slL, stC]; simp (maxSteps := 4000000) only [go_sem, seval]
                  (repeat' (first
 | ((exfalso; omega))
 | refine awp_seqK ?_
 | refine kt ?_
 | refine And.intro ?_ ?_
 | ((first | refine awp_stp rfl ?_ | refine awp_draw (by kernel_rfl) (by kernel_rfl) ?_ | refine Imp.le2 ?_ | refine go_split (fun _h => ?_) (fun _h => ?_)) <;> try simp (maxSteps := 4000000) only [go_sem, seval])
 | intro _h
 | refine awp_block ?_
 | refine awp_scope ?_
 | refine cond_b ?_ ?_
 | (show heapOK _ _ = true; kernel_rfl)
 | (show heapOK2 _ _ = true; kernel_rfl)
 | (omega)))
                  all_goals trace_state
                · rw [if_neg hx0] at hF
                  have eX : ((x : Int) = 0) = False := eq_false (by omega)
                  have e5 : IntKind.u8.wrap ((x : Int) - 1) = ((x - 1 : Nat) : Int) := sub_nat hx8 hx0
                  have e6 : u8and ((x - 1 : Nat) : Int) (othB s.rest : Nat) = (((x - 1) &&& othB s.rest : Nat) : Int) := u8and_nat (by omega) (ndiff_lt hr8)
                  simp only [nH, nT, plB, planC, busC, sl, townC, slH, slL, stC]; simp (maxSteps := 4000000) only [go_sem, seval]
                  (repeat' (first
 | ((exfalso; omega))
 | refine awp_seqK ?_
 | refine kt ?_
 | refine And.intro ?_ ?_
 | ((first | refine awp_stp rfl ?_ | refine awp_draw (by kernel_rfl) (by kernel_rfl) ?_ | refine Imp.le2 ?_ | refine go_split (fun _h => ?_) (fun _h => ?_)) <;> try simp (maxSteps := 4000000) only [go_sem, seval, eX, e5, e6, decide_false])
 | intro _h
 | refine awp_block ?_
 | refine awp_scope ?_
 | refine cond_b ?_ ?_
 | (show heapOK _ _ = true; kernel_rfl)
 | (show heapOK2 _ _ = true; kernel_rfl)
 | (omega)))
                  have hax : (x - 1) &&& othB s.rest ≤ x - 1 := Nat.and_le_left
                  refine ⟨((x - 1) &&& othB s.rest, n, K1), ⟨by simp only; rw [Nat.and_assoc, Nat.and_self], hn, hK1, hF⟩, by simp only; omega, .le2 ?_⟩
                  simp only [nH, nT, plB, planC, busC, sl, townC, slH, slL, stC]; simp (maxSteps := 4000000) only [go_sem, seval]
                  try (first | rfl | exact ⟨rfl, rfl⟩)
        · rfl
        · simp only [nH, nT, plB, planC, busC, sl, townC, slH, slL, stC]
          simp (maxSteps := 4000000) only [go_sem, seval]
          (repeat' (first
 | ((exact keyT))
 | refine awp_seqK ?_
 | refine kt ?_
 | refine And.intro ?_ ?_
 | ((first | refine awp_stp rfl ?_ | refine awp_draw (by kernel_rfl) (by kernel_rfl) ?_ | refine Imp.le2 ?_ | refine go_split (fun _h => ?_) (fun _h => ?_)) <;> try simp (maxSteps := 4000000) only [go_sem, seval, mup_st])
 | intro _h
 | refine awp_block ?_
 | refine awp_scope ?_
 | refine cond_b ?_ ?_
 | (show heapOK _ _ = true; kernel_rfl)
 | (show heapOK2 _ _ = true; kernel_rfl)
 | (omega)))
          all_goals trace_state
end Go.Am
namespace Go.Am
open Go.RowKit Go.Proofs
attribute [local irreducible] AWP CallS Kt goK CallK stepK evOps SemF SemY Imp
set_option maxRecDepth 4000
set_option linter.unusedSimpArgs false
set_option linter.unusedVariables false
set_option maxHeartbeats 1600000
theorem StOK.lt {t : Town} {s : Sta} (h : StOK t s) (ht : TownOK t) : s.rest < 256 := by
  have := ht.homes
  exact Nat.lt_of_lt_of_le h.rest (show 2 ^ t.homes.length ≤ 2 ^ 8 from Nat.pow_le_pow_right (by omega) (by omega))
def fwK (t : Town) (s : Sta) (K : Kmap) : Kmap := (needM t (s.rest + 1) s K).2
theorem fwK_good {t : Town} {s : Sta} {K : Kmap} (h : s.rest < 256) (hK : GoodK t K) : GoodK t (fwK t s K) := (needM_good _ s K h (Nat.lt_succ_self _) hK).2
theorem fewest_c (t : Town) (ht : TownOK t) (s : Sta) (K : Kmap) (hs : StOK t s) (hK : GoodK t K) :
    SemF Tryz.prog 42 [.ptr 0 0 0, .agg (stC s)] [plB t 1, some (.map (kmC K))] (.int .i64 (needV t s)) [plB t 1, some (.map (kmC (fwK t s K)))] := by
  have h := need_c t ht (s.rest + 1) s K hs (Nat.lt_succ_self _) hK
  rw [(needM_good (t := t) (s.rest + 1) s K (hs.lt ht) (Nat.lt_succ_self _) hK).1] at h
  have e : (needM t (s.rest + 1) s K).2 = fwK t s K := rfl
  rw [e] at h
  generalize fwK t s K = K2 at *
  generalize needV t s = n at *
  simp only [h74, plB, planC, busC, sl, townC, slH, slL, stC] at h ⊢
  (refine semF_of_awp (ys := [.int .i64 n]) (fun w args => Tryz.call42 ..) Tryz.func42 rfl (fun w0 m0 wz => ?_); simp only [Tryz.ntmps42, Tryz.results42, initT, junks, homeC, hallC, slH, slL, townC, sl, List.toList_toArray, List.cons_append, List.nil_append, List.length_cons, List.length_nil, Nat.reduceAdd, Nat.reduceSub])
  (repeat' (first
 | (refine awp_ownN 2 rfl ?_; simp (maxSteps := 4000000) only [go_sem, seval, List.take_succ_cons, List.take_zero]; (repeat refine And.intro (by omega) ?_); refine own_go (h) [0, 1, 2, 4] rfl ?_ ?_ rfl ?_ <;> try simp (maxSteps := 4000000) only [go_sem, seval, Nat.lt_irrefl] <;> try decide)
 | refine awp_seqK ?_
 | refine kt ?_
 | refine And.intro ?_ ?_
 | ((first | refine awp_stp rfl ?_ | refine awp_draw (by kernel_rfl) (by kernel_rfl) ?_ | refine Imp.le2 ?_ | refine go_split (fun _h => ?_) (fun _h => ?_)) <;> try simp (maxSteps := 4000000) only [go_sem, seval])
 | intro _h
 | refine awp_block ?_
 | refine awp_scope ?_
 | refine cond_b ?_ ?_
 | (show heapOK _ _ = true; kernel_rfl)
 | (show heapOK2 _ _ = true; kernel_rfl)
 | (omega)))
def findM (t : Town) (s : Sta) : List (Bus × Sta) → Kmap → Option (Bus × Sta) × Kmap
  | [], K => (none, K)
  | p :: l, K => if needV t s = 1 + needV t p.2 then (some p, fwK t p.2 (fwK t s K)) else findM t s l (fwK t p.2 (fwK t s K))
def planF (t : Town) : Nat → Sta → List Bus
  | 0, _ => []
  | f + 1, s => if s.rest = 0 then [] else match (nextL t s).find? (fun p => decide (needV t s = 1 + needV t p.2)) with
    | some p => p.1 :: planF t f p.2
    | none => []
theorem planF_le {t : Town} : ∀ (f : Nat) (s : Sta), (planF t f s).length ≤ f
  | 0, s => by simp [planF]
  | f + 1, s => by
    simp only [planF]
    split
    · simp
    · split
      · have := planF_le (t := t) f
        rename_i p _
        have := this p.2
        simp; omega
      · simp
theorem findM_find {t : Town} {s : Sta} : ∀ (l : List (Bus × Sta)) (K : Kmap), (findM t s l K).1 = l.find? (fun p => decide (needV t s = 1 + needV t p.2))
  | [], K => rfl
  | p :: l, K => by
    simp only [findM, List.find?_cons]
    by_cases h : needV t s = 1 + needV t p.2
    · simp [h]
    · simp [h, findM_find l]
theorem findM_good {t : Town} {s : Sta} (hr : s.rest < 256) : ∀ (l : List (Bus × Sta)) (K : Kmap), (∀ p ∈ l, p.2.rest < 256) → GoodK t K → GoodK t (findM t s l K).2
  | [], K, _, h => h
  | p :: l, K, hl, h => by
    have h1 := fwK_good (hl p (by simp)) (fwK_good hr h)
    simp only [findM]
    split
    · exact h1
    · exact findM_good hr l _ (fun q hq => hl q (by simp [hq])) h1
theorem foldV_att {g : Sta → Int} : ∀ (l : List (Bus × Sta)) (a : Int), foldV g l a = a ∨ ∃ p ∈ l, foldV g l a = 1 + g p.2
  | [], a => .inl rfl
  | p :: l, a => by
    simp only [foldV]
    rcases foldV_att (g := g) l (min a (1 + g p.2)) with h | ⟨q, hq, h⟩
    · by_cases h2 : a ≤ 1 + g p.2
      · left; rw [h]; omega
      · right; exact ⟨p, by simp, by rw [h]; omega⟩
    · exact .inr ⟨q, by simp [hq], h⟩
theorem find_some {t : Town} {s : Sta} (hr : s.rest < 256) (h0 : s.rest ≠ 0) (h : needV t s < 1000) : ∃ p, (nextL t s).find? (fun p => decide (needV t s = 1 + needV t p.2)) = some p ∧ p ∈ nextL t s ∧ needV t s = 1 + needV t p.2 := by
  have e := needV_eq (t := t) hr
  rw [if_neg h0] at e
  rcases foldV_att (g := needV t) (nextL t s) 1000 with h1 | ⟨p, hp, h1⟩
  · omega
  · cases hf : (nextL t s).find? (fun p => decide (needV t s = 1 + needV t p.2)) with
    | none =>
      rw [List.find?_eq_none] at hf
      exact absurd (decide_eq_true (by rw [e, h1])) (hf p hp)
    | some q =>
      have h2 := List.find?_some hf
      exact ⟨q, rfl, List.mem_of_find?_eq_some hf, of_decide_eq_true h2⟩
theorem hallsL_st {t : Town} {s : Sta} {m : Nat} {p : Bus × Sta} : ∀ f i, p ∈ hallsL t s m f i → ∃ j, i ≤ j ∧ j < i + f ∧ fitsB t s m j = true ∧ p = (mkBus t m j, toSt t s m j)
  | 0, _, h => by simp [hallsL] at h
  | f + 1, i, h => by
    simp only [hallsL] at h
    split at h
    · rename_i hf
      rcases List.mem_cons.1 h with rfl | h
      · exact ⟨i, by omega, by omega, hf, rfl⟩
      · obtain ⟨j, h1, h2, h3⟩ := hallsL_st f _ h
        exact ⟨j, by omega, by omega, h3⟩
    · obtain ⟨j, h1, h2, h3⟩ := hallsL_st f _ h
      exact ⟨j, by omega, by omega, h3⟩
theorem hallsL_mem {t : Town} {s : Sta} {m j : Nat} : ∀ f i, i ≤ j → j < i + f → fitsB t s m j = true → (mkBus t m j, toSt t s m j) ∈ hallsL t s m f i
  | 0, i, h1, h2, _ => by omega
  | f + 1, i, h1, h2, h3 => by
    simp only [hallsL]
    by_cases e : i = j
    · subst e; rw [if_pos h3]; simp
    · split
      · exact List.mem_cons_of_mem _ (hallsL_mem f _ (by omega) (by omega) h3)
      · exact hallsL_mem f _ (by omega) (by omega) h3
theorem candL_mem {t : Town} {s : Sta} {p : Bus × Sta} : ∀ l, p ∈ candL t s l ↔ ∃ x ∈ l, p ∈ hallsL t s (lowB s.rest ||| x) t.halls.length 0
  | [] => by simp [candL]
  | x :: l => by simp [candL, candL_mem l]
theorem nextL_mem {t : Town} {s : Sta} {p : Bus × Sta} (hr : s.rest < 256) : p ∈ nextL t s ↔ ∃ x j, x &&& othB s.rest = x ∧ j < t.halls.length ∧ fitsB t s (lowB s.rest ||| x) j = true ∧ p = (mkBus t (lowB s.rest ||| x) j, toSt t s (lowB s.rest ||| x) j) := by
  have ho : othB s.rest < 256 := ndiff_lt hr
  unfold nextL
  rw [candL_mem]
  constructor
  · rintro ⟨x, hx, hp⟩
    rw [← subs_R ho, subs_mem ho] at hx
    obtain ⟨j, h1, h2, h3, h4⟩ := hallsL_st _ _ hp
    exact ⟨x, j, hx, by omega, h3, h4⟩
  · rintro ⟨x, j, hx, hj, hf, rfl⟩
    exact ⟨x, by rw [← subs_R ho, subs_mem ho]; exact hx, hallsL_mem _ _ (by omega) (by omega) hf⟩
theorem toSt_ok {t : Town} {s : Sta} {x i : Nat} (ht : TownOK t) (hs : StOK t s) (h0 : s.rest ≠ 0) (hx : x &&& othB s.rest = x) (hi : i < t.halls.length) (hf : fitsB t s (lowB s.rest ||| x) i = true) : StOK t (toSt t s (lowB s.rest ||| x) i) := by
  have hr := hs.lt ht
  have hl := ndiff_less hr h0 x rfl
  have hmk := sub_le (mask_sub hr hx)
  have hmask : (lowB s.rest ||| x) < 2 ^ t.homes.length := by have := hs.rest; omega
  have hpb := pplL_bd ht (lst_in hmask ht.homes.2) _ (Nat.le_refl _)
  have hi3 := ht.halls
  refine ⟨by show ndiff s.rest (lowB s.rest ||| x) < _; have := hs.rest; omega, fun j => ?_⟩
  simp only [fitsB, Bool.and_eq_true, decide_eq_true_eq] at hf
  have h := hf.1
  have hpp : 0 ≤ ppl t (lst (lowB s.rest ||| x)) := hpb.1
  simp only [toSt]
  generalize ppl t (lst (lowB s.rest ||| x)) = pp at *
  have h1 := hs.room 0
  have h2 := hs.room 1
  have h3 := hs.room 2
  have h4 := hs.room i
  simp only [Sta.room] at h h1 h2 h3 h4 ⊢
  simp only [Nat.succ_ne_zero, if_true, if_false, reduceIte, Nat.reduceEqDiff, Nat.one_ne_zero] at h1 h2 h3
  rcases (by omega : i = 0 ∨ i = 1 ∨ i = 2) with rfl | rfl | rfl <;> simp at h h4 ⊢ <;> (repeat' split) <;> omega
theorem pl_B {l : List Bus} : pureL (recs busC l) = True := eq_true (recs_pure fun s => by simp [pureL, busC, sl, cellPure])
theorem lv_B {l : List Bus} {p : Nat → Bool} : (recs busC l).all (live2 p) = true := recs_live fun s => by simp [pureL, busC, sl, cellPure]
theorem len_B {l : List Bus} : (recs busC l).length = l.length * 3 := recs_length fun _ => rfl
attribute [go_sem] pl_B lv_B len_B
def slB (l : List Bus) : AV := .psl false l.length (recs busC l)
end Go.Am
namespace Go.Am
open Go.RowKit Go.Proofs
attribute [local irreducible] AWP CallS Kt goK CallK stepK evOps SemF SemY Imp
set_option maxRecDepth 4000
set_option linter.unusedSimpArgs false
set_option linter.unusedVariables false
set_option maxHeartbeats 3200000
theorem ey_x {X : Ctx} {H' : List (Option ABlk)} {b id : Nat} {y : Bool} {s : St} : endY X b y H' (.exit id) s = recK .busy (hget s.H b) fun fn T ps asg body d => y = false ∧ Le2 X ⟨[], hset s.H b (.loop .done (some (.exit id)) fn T ps asg body d), []⟩ ⟨[], H', []⟩ := nrfl rfl
attribute [go_sem] ey_x
def planE (t : Town) : Int := if faultT t ≠ 0 then faultT t else if 1000 ≤ needV t (stBeg t t.homes.length t.halls.length) then 9 else 0
def planL (t : Town) : List Bus := planF t 256 (stBeg t t.homes.length t.halls.length)
def planV (t : Town) : AV := if planE t = 0 then slB (planL t) else .nils
theorem stBeg_ok {t : Town} (ht : TownOK t) {n : Nat} (hn : n ≤ t.homes.length) : StOK t (stBeg t n t.halls.length) := by
  have h0 := ht.hall 0
  have h1 := ht.hall 1
  have h2 := ht.hall 2
  refine ⟨?_, fun i => ?_⟩
  · have : 2 ^ n ≤ 2 ^ t.homes.length := Nat.pow_le_pow_right (by omega) hn
    have := Nat.two_pow_pos n
    show 2 ^ n - 1 < _
    omega
  · simp only [Sta.room, stBeg]
    by_cases a : 0 < t.halls.length
    · have b0 := (h0 a).room
      by_cases c : 1 < t.halls.length
      · have b1 := (h1 c).room
        by_cases d : 2 < t.halls.length
        · have b2 := (h2 d).room
          simp only [a, c, d, if_true]; split <;> (try split) <;> omega
        · simp only [a, c, d, if_true, if_false]; split <;> (try split) <;> omega
      · simp only [a, c, show ¬ 2 < t.halls.length by omega, if_true, if_false]; split <;> (try split) <;> omega
    · simp only [a, show ¬ 1 < t.halls.length by omega, show ¬ 2 < t.halls.length by omega, if_false]; split <;> (try split) <;> omega
def plH (t : Town) (s : Sta) (L : List Bus) (K : Kmap) : List (Option ABlk) :=
  [some (.cells 76 1 0 (townC t)), some (.cells 69 1 0 [.osl 7 L.length 0 L.length]), none, some (.map (kmC K)), plB t 3, some (.cells 116 1 0 [.ptr 4 0 0]), some (.cells 121 1 0 (stC s)), some (.cells 87 3 L.length (recs busC L))]
def rT : List AV := mkT 47 [(1, .ptr 0 0 0), (2, .ptr 1 0 0), (5, .ptr 5 0 0), (6, .ptr 6 0 0), (30, .fn (.func 68) [] [.ptr 9 0 0, .ptr 8 0 0])]
def plT : List AV := mkT 47 [(1, .ptr 0 0 0), (2, .ptr 1 0 0), (5, .ptr 5 0 0), (6, .ptr 6 0 0)]
theorem Plan_c (t : Town) (hb : townOK t) : CallS Tryz.prog 18 [.agg (townC t)] (.tup [planV t, .int .i64 (planE t)]) := by
  have hch := check_c t hb
  by_cases h0 : faultT t = 0
  · have ht := faultT_zero h0
    have hln := ht.homes
    have e0 : (faultT t = 0) = True := eq_true h0
    have hpl := planning_c t ht
    have hbe := begin_c t t.homes.length [] ht (by omega)
    have hso := stBeg_ok ht (Nat.le_refl _)
    have hfw := fewest_c t ht _ [] hso GoodK.nil
    have hK := fwK_good (hso.lt ht) (GoodK.nil (t := t))
    generalize hs0 : stBeg t t.homes.length t.halls.length = s0 at *
    generalize fwK t s0 [] = K at *
    have hnb := needV_bd (t := t) (s := s0)
    simp only [h0, plH, plT, plB, planC, busC, sl, townC, slH, slL, stC] at hch hpl hbe hfw
    by_cases hl : 1000 ≤ needV t s0
    · have e1 : planE t = 9 := by simp [planE, h0, hs0, hl]
      have e2 : (1000 ≤ needV t s0) = True := eq_true hl
      rw [show planV t = .nils by simp [planV, e1], e1]
      (refine callS_of_awp (fun w args => Tryz.call18 ..) Tryz.func18 rfl (fun w0 m0 wz => ?_); simp only [Tryz.ntmps18, Tryz.results18, initT, junks, homeC, hallC, slH, slL, townC, sl, List.toList_toArray, List.cons_append, List.nil_append, List.length_cons, List.length_nil, Nat.reduceAdd, Nat.reduceSub])
      (repeat' (first
 | (refine awp_ownN 1 rfl ?_; simp (maxSteps := 4000000) only [go_sem, seval, List.take_succ_cons, List.take_zero, e0, decide_true, e2]; (repeat refine And.intro (by omega) ?_); refine own_go (hpl) [] rfl ?_ ?_ rfl ?_ <;> try simp (maxSteps := 4000000) only [go_sem, seval, Nat.lt_irrefl, e0, decide_true, e2] <;> try decide)
 | (refine awp_ownN 4 rfl ?_; simp (maxSteps := 4000000) only [go_sem, seval, List.take_succ_cons, List.take_zero, e0, decide_true, e2]; (repeat refine And.intro (by omega) ?_); refine own_go (hbe) [4, 3] rfl ?_ ?_ rfl ?_ <;> try simp (maxSteps := 4000000) only [go_sem, seval, Nat.lt_irrefl, e0, decide_true, e2] <;> try decide)
 | (refine awp_ownN 2 rfl ?_; simp (maxSteps := 4000000) only [go_sem, seval, List.take_succ_cons, List.take_zero, e0, decide_true, e2]; (repeat refine And.intro (by omega) ?_); refine own_go (hfw) [4, 3] rfl ?_ ?_ rfl ?_ <;> try simp (maxSteps := 4000000) only [go_sem, seval, Nat.lt_irrefl, e0, decide_true, e2] <;> try decide)
 | refine awp_seqK ?_
 | refine kt ?_
 | refine And.intro ?_ ?_
 | ((first | refine awp_stp rfl ?_ | refine awp_draw (by kernel_rfl) (by kernel_rfl) ?_ | refine Imp.le2 ?_ | refine callK_of (hch) ?_ | refine go_split (fun _h => ?_) (fun _h => ?_)) <;> try simp (maxSteps := 4000000) only [go_sem, seval, e0, decide_true, e2])
 | intro _h
 | refine awp_block ?_
 | refine awp_scope ?_
 | refine cond_b ?_ ?_
 | (show heapOK _ _ = true; kernel_rfl)
 | (show heapOK2 _ _ = true; kernel_rfl)
 | (omega)))
      all_goals trace_state
    · have e1 : planE t = 0 := by simp [planE, h0, hs0, hl]
      have e2 : (1000 ≤ needV t s0) = False := eq_false hl
      simp only [planV, e1, if_true, slB, planL, hs0]
      have hPl : (planF t 256 s0).length ≤ 256 := planF_le 256 s0
      generalize hP : planF t 256 s0 = P at *
      (refine callS_of_awpZ (fun w args => Tryz.call18 ..) Tryz.func18 rfl (fun w0 wz => ?_); simp only [Tryz.ntmps18, Tryz.results18, initT, junks, homeC, hallC, slH, slL, townC, sl, List.toList_toArray, List.cons_append, List.nil_append, List.length_cons, List.length_nil, Nat.reduceAdd, Nat.reduceSub])
      (repeat' (first
 | (refine awp_ownN 1 rfl ?_; simp (maxSteps := 4000000) only [go_sem, seval, List.take_succ_cons, List.take_zero, e0, decide_true, e2, decide_false]; (repeat refine And.intro (by omega) ?_); refine own_go (hpl) [] rfl ?_ ?_ rfl ?_ <;> try simp (maxSteps := 4000000) only [go_sem, seval, Nat.lt_irrefl, e0, decide_true, e2, decide_false] <;> try decide)
 | (refine awp_ownN 4 rfl ?_; simp (maxSteps := 4000000) only [go_sem, seval, List.take_succ_cons, List.take_zero, e0, decide_true, e2, decide_false]; (repeat refine And.intro (by omega) ?_); refine own_go (hbe) [4, 3] rfl ?_ ?_ rfl ?_ <;> try simp (maxSteps := 4000000) only [go_sem, seval, Nat.lt_irrefl, e0, decide_true, e2, decide_false] <;> try decide)
 | (refine awp_ownN 2 rfl ?_; simp (maxSteps := 4000000) only [go_sem, seval, List.take_succ_cons, List.take_zero, e0, decide_true, e2, decide_false]; (repeat refine And.intro (by omega) ?_); refine own_go (hfw) [4, 3] rfl ?_ ?_ rfl ?_ <;> try simp (maxSteps := 4000000) only [go_sem, seval, Nat.lt_irrefl, e0, decide_true, e2, decide_false] <;> try decide)
 | refine awp_seqK ?_
 | refine kt ?_
 | refine And.intro ?_ ?_
 | ((first | refine awp_stp rfl ?_ | refine awp_draw (by kernel_rfl) (by kernel_rfl) ?_ | refine Imp.le2 ?_ | refine callK_of (hch) ?_ | refine go_split (fun _h => ?_) (fun _h => ?_)) <;> try simp (maxSteps := 4000000) only [go_sem, seval, e0, decide_true, e2, decide_false])
 | intro _h
 | refine awp_block ?_
 | refine awp_scope ?_
 | refine cond_b ?_ ?_
 | (show heapOK _ _ = true; kernel_rfl)
 | (show heapOK2 _ _ = true; kernel_rfl)
 | (omega)))
      refine awp_adH 1 0 87 3 rfl rfl ?_
      simp only [adH, hget, hset, lset, List.length_cons, List.length_nil, Nat.reduceAdd]
      refine awp_loopJ (fun x : Nat × Sta × Kmap × List Bus => StOK t x.2.1 ∧ x.2.1.rest < x.1 ∧ GoodK t x.2.2.1 ∧ needV t x.2.1 < 1000 ∧ x.2.2.2 ++ planF t x.1 x.2.1 = P) (fun x => ⟨plT, plH t x.2.1 x.2.2.2 x.2.2.1, []⟩) (fun x => x.2.1.rest) (256, s0, K, []) ⟨hso, hso.lt ht, hK, by simp only; omega, hP⟩ (.le2 ?_) ?_
      · simp only [plH, plT, rT, plB, planC, busC, sl, townC, slH, slL, stC]; simp (maxSteps := 4000000) only [go_sem, seval]
        try (first | rfl | exact ⟨rfl, rfl⟩)
      · rintro ⟨f, s, K, L⟩ ⟨hs, hf, hK, hnV, hLP⟩
        simp only at hs hf hK hnV hLP
        have hLl : L.length ≤ 256 := by rw [← hLP] at hPl; simp only [List.length_append] at hPl; omega
        cases f with
        | zero => omega
        | succ f =>
          have hr8 := hs.lt ht
          simp only [planF] at hLP
          by_cases h0 : s.rest = 0
          · rw [if_pos h0, List.append_nil] at hLP
            subst hLP
            have eZ : ((s.rest : Int) = 0) = True := eq_true (by omega)
            simp only [plH, plT, rT, plB, planC, busC, sl, townC, slH, slL, stC]; simp (maxSteps := 4000000) only [go_sem, seval]
            (repeat' (first
 | refine awp_seqK ?_
 | refine kt ?_
 | refine And.intro ?_ ?_
 | ((first | refine awp_stp rfl ?_ | refine awp_draw (by kernel_rfl) (by kernel_rfl) ?_ | refine Imp.le2 ?_ | refine go_split (fun _h => ?_) (fun _h => ?_)) <;> try simp (maxSteps := 4000000) only [go_sem, seval, eZ, decide_true, Bool.not_true])
 | intro _h
 | refine awp_block ?_
 | refine awp_scope ?_
 | refine cond_b ?_ ?_
 | (show heapOK _ _ = true; kernel_rfl)
 | (show heapOK2 _ _ = true; kernel_rfl)
 | (omega)))
            all_goals trace_state
          · rw [if_neg h0] at hLP
            have eZ : ((s.rest : Int) = 0) = False := eq_false (by omega)
            obtain ⟨p, hp1, hp2, hp3⟩ := find_some hr8 h0 hnV
            rw [hp1] at hLP
            simp only at hLP
            have hE1 := findM_find (t := t) (s := s) (nextL t s) K
            rw [hp1] at hE1
            have hpr := nextL_rest hr8 h0 hp2
            have hps : StOK t p.2 := by
              obtain ⟨x, j, h1, h2, h3, h4⟩ := (nextL_mem hr8).1 hp2
              rw [h4]; exact toSt_ok ht hs h0 h1 h2 h3
            have hnx := next_c t s K
            have hE : findM t s (nextL t s) K = (some p, (findM t s (nextL t s) K).2) := by rw [← hE1]
            have hKE := findM_good (t := t) hr8 (nextL t s) K (fun q hq => by have := nextL_rest hr8 h0 hq; omega) hK
            generalize (findM t s (nextL t s) K).2 = KE at hE hKE
            have e1 := low_nat hr8
            have e2 : andn s.rest (lowB s.rest : Nat) = ((othB s.rest : Nat) : Int) := andn_nat2 hr8 (lowB_lt hr8)
            have hhl := ht.halls
            simp only [plH, plT, rT, plB, planC, busC, sl, townC, slH, slL, stC] at hnx
            simp only [plH, plT, rT, plB, planC, busC, sl, townC, slH, slL, stC]; simp (maxSteps := 4000000) only [go_sem, seval]
            (repeat' (first
 | (refine awp_ownN 2 rfl ?_; simp (maxSteps := 4000000) only [go_sem, seval, List.take_succ_cons, List.take_zero, eZ, decide_false, Bool.not_false]; (repeat refine And.intro (by omega) ?_); refine own_go (hnx) [4, 3] rfl ?_ ?_ rfl ?_ <;> try simp (maxSteps := 4000000) only [go_sem, seval, Nat.lt_irrefl, eZ, decide_false, Bool.not_false] <;> try decide)
 | refine awp_seqK ?_
 | refine kt ?_
 | refine And.intro ?_ ?_
 | ((first | refine awp_stp rfl ?_ | refine awp_draw (by kernel_rfl) (by kernel_rfl) ?_ | refine Imp.le2 ?_ | refine go_split (fun _h => ?_) (fun _h => ?_)) <;> try simp (maxSteps := 4000000) only [go_sem, seval, eZ, decide_false, Bool.not_false])
 | intro _h
 | refine awp_block ?_
 | refine awp_scope ?_
 | refine cond_b ?_ ?_
 | (show heapOK _ _ = true; kernel_rfl)
 | (show heapOK2 _ _ = true; kernel_rfl)
 | (omega)))
            refine AWP.le2 (s' := ⟨rT, plH t s L K ++ [some (.cells 116 1 0 [.ptr 4 0 0]), some (.cells 121 1 0 (stC s))], []⟩) (by simp only [plH, plT, rT, plB, planC, busC, sl, townC, slH, slL, stC]; simp (maxSteps := 4000000) only [go_sem, seval]) ?_
            refine awp_rangeZ (gf := 68) (first := []) (caps := [.ptr 9 0 0, .ptr 8 0 0]) (by simp only [rT]; simp (maxSteps := 4000000) only [go_sem, seval]) 10 rfl ?_
            intro ca cb hca hcb
            refine ⟨.tup [], plH t p.2 (L ++ [p.1]) KE ++ ([some (.cells 116 1 0 [.ptr 4 0 0]), some (.cells 121 1 0 (stC s))] ++ [some (.dfr true), some (.loop .done (some (.exit 2)) 0 rT #[31, 32] ca cb 10)]), .done, some (.exit 2), .exit 2, ?_, ?_, by simp, rfl, ?_⟩
            · simp only [plH, plT, rT, plB, planC, busC, sl, townC, slH, slL, stC]
              simp (maxSteps := 4000000) only [go_sem, seval]
              (refine semF_of_awp (ys := []) (fun w args => Tryz.call68 ..) Tryz.func68 rfl (fun w0 m0 wz => ?_); simp only [Tryz.ntmps68, Tryz.results68, initT, junks, homeC, hallC, slH, slL, townC, sl, List.toList_toArray, List.cons_append, List.nil_append, List.length_cons, List.length_nil, Nat.reduceAdd, Nat.reduceSub])
              (repeat' (first
 | refine awp_seqK ?_
 | refine kt ?_
 | refine And.intro ?_ ?_
 | ((first | refine awp_stp rfl ?_ | refine awp_draw (by kernel_rfl) (by kernel_rfl) ?_ | refine Imp.le2 ?_ | refine go_split (fun _h => ?_) (fun _h => ?_)) <;> try simp (maxSteps := 4000000) only [go_sem, seval, e1, e2])
 | intro _h
 | refine awp_block ?_
 | refine awp_scope ?_
 | refine cond_b ?_ ?_
 | (show heapOK _ _ = true; kernel_rfl)
 | (show heapOK2 _ _ = true; kernel_rfl)
 | (omega)))
              refine awp_loopJ (fun x : Nat × Kmap => x.1 &&& othB s.rest = x.1 ∧ GoodK t x.2 ∧ findM t s (candL t s (subsR (othB s.rest) x.1)) x.2 = (some p, KE))
                (fun x => ⟨mkT 79 [(0, .fn (.yield 11) [] []), (1, .ptr 9 0 0), (2, .ptr 8 0 0), (4, .int .u8 (lowB s.rest : Nat)), (5, .int .u8 (othB s.rest : Nat)), (6, .int .u8 (x.1 : Nat))], plH t s L x.2 ++ ([some (.cells 116 1 0 [.ptr 4 0 0]), some (.cells 121 1 0 (stC s))] ++ [some (.dfr true), some (.loop .ready none 0 rT #[31, 32] ca cb 10)]), []⟩) (fun x => x.1) (othB s.rest, K) ⟨Nat.and_self _, hK, hE⟩ (.le2 ?_) ?_
              · simp only [plH, plT, rT, plB, planC, busC, sl, townC, slH, slL, stC]; simp (maxSteps := 4000000) only [go_sem, seval]
                try (first | rfl | exact ⟨rfl, rfl⟩)
              · rintro ⟨x, K1⟩ ⟨hx, hK1, hF⟩
                simp only at hx hK1 hF
                rw [subsR_step] at hF
                simp only [candL] at hF
                have hx8 : x < 256 := by have := sub_le hx; have := ndiff_lt (b := lowB s.rest) hr8; unfold othB at *; omega
                have hmk := mask_sub hr8 hx
                have hmk2 := sub_le hmk
                have e3 : u8or (lowB s.rest : Nat) (x : Nat) = ((lowB s.rest ||| x : Nat) : Int) := u8or_nat (lowB_lt hr8) hx8
                have htok := fun i => toSt_ok (x := x) (i := i) ht hs h0 hx
                generalize hM : lowB s.rest ||| x = M at *
                have e4 : andn s.rest M = ((ndiff s.rest M : Nat) : Int) := andn_nat2 hr8 (by omega)
                simp only [plH, plT, rT, plB, planC, busC, sl, townC, slH, slL, stC]; simp (maxSteps := 4000000) only [go_sem, seval]
                (repeat' (first
 | refine awp_seqK ?_
 | refine kt ?_
 | refine And.intro ?_ ?_
 | ((first | refine awp_stp rfl ?_ | refine awp_draw (by kernel_rfl) (by kernel_rfl) ?_ | refine Imp.le2 ?_ | refine go_split (fun _h => ?_) (fun _h => ?_)) <;> try simp (maxSteps := 4000000) only [go_sem, seval])
 | intro _h
 | refine awp_block ?_
 | refine awp_scope ?_
 | refine cond_b ?_ ?_
 | (show heapOK _ _ = true; kernel_rfl)
 | (show heapOK2 _ _ = true; kernel_rfl)
 | (omega)))
                refine awp_loopJ (fun y : Nat × Kmap => y.1 ≤ t.halls.length ∧ GoodK t y.2 ∧ findM t s (hallsL t s M (t.halls.length - y.1) y.1 ++ candL t s (if x = 0 then [] else subsR (othB s.rest) ((x - 1) &&& othB s.rest))) y.2 = (some p, KE))
                  (fun y => ⟨mkT 79 [(0, .fn (.yield 11) [] []), (1, .ptr 9 0 0), (2, .ptr 8 0 0), (4, .int .u8 (lowB s.rest : Nat)), (5, .int .u8 (othB s.rest : Nat)), (6, .int .u8 (x : Nat)), (31, .int .i64 t.halls.length), (32, .int .i64 y.1)], plH t s L y.2 ++ ([some (.cells 116 1 0 [.ptr 4 0 0]), some (.cells 121 1 0 (stC s))] ++ [some (.dfr true), some (.loop .ready none 0 rT #[31, 32] ca cb 10)]), []⟩) (fun y => t.halls.length - y.1) (0, K1) ⟨Nat.zero_le _, hK1, hF⟩ (.le2 ?_) ?_
                · simp only [plH, plT, rT, plB, planC, busC, sl, townC, slH, slL, stC]; simp (maxSteps := 4000000) only [go_sem, seval]
                  try (first | rfl | exact ⟨rfl, rfl⟩)
                · rintro ⟨i, K1⟩ ⟨hi, hK1, hF⟩
                  simp only at hi hK1 hF
                  rcases Nat.lt_or_eq_of_le hi with hi1 | hi1
                  · rw [show t.halls.length - i = (t.halls.length - (i + 1)) + 1 by omega] at hF
                    simp only [hallsL] at hF
                    have hmask : M < 2 ^ t.homes.length := by have := hs.rest; omega
                    have hbus := bus_c t M i K1 ht hmask
                    have hin := lst_in hmask hln.2
                    have hl8 : (lst M).length ≤ 8 := lstN_le 8
                    have hbI : BusIn t (mkBus t M i) := ⟨hin, ⟨by simp [mkBus], by simp [mkBus]; omega⟩, by have := leaveL_bd ht hin (lst M).length (Nat.le_refl _); simp only [mkBus]; omega, by simp only [mkBus]; omega⟩
                    have hpe := people_c t (mkBus t M i) K1 ht hbI.homes hbI.len
                    have hma := may_c t (mkBus t M i) K1 ht hbI
                    have hpb := pplL_bd ht hin (lst M).length (Nat.le_refl _)
                    have hpl : ppl t (mkBus t M i).homes = ppl t (lst M) := rfl
                    have hpl2 : pplL t (lst M) (lst M).length = ppl t (lst M) := rfl
                    rw [hpl] at hpe
                    rw [hpl2] at hpb
                    have hfit : fitsB t s M i = (decide (ppl t (lst M) ≤ s.room i) && mayB t (mkBus t M i)) := rfl
                    have hrm : (if i = 0 then s.r0 else if i = 1 then s.r1 else s.r2) = s.room i := rfl
                    have hrb := hs.room i
                    have hi3 : i < 3 := by omega
                    have hsp := fun (x : AV) (a b c v : Int) => sp_room (x := x) (a := a) (b := b) (c := c) (v := v) hi3
                    have hr0 : (if i = 0 then s.room i - ppl t (lst M) else s.r0) = (toSt t s M i).r0 := rfl
                    have hr1 : (if i = 1 then s.room i - ppl t (lst M) else s.r1) = (toSt t s M i).r1 := rfl
                    have hr2 : (if i = 2 then s.room i - ppl t (lst M) else s.r2) = (toSt t s M i).r2 := rfl
                    have hto : (toSt t s M i).rest = ndiff s.rest M := rfl
                    have hsto := htok i hi1
                    rw [← hto] at e4
                    clear hpl hpl2
                    generalize mkBus t M i = b at *
                    generalize toSt t s M i = to at *
                    generalize ppl t (lst M) = pp at *
                    have key : (pp ≤ s.room i ∧ mayB t b = true ∧ fitsB t s M i = true) ∨ (pp ≤ s.room i ∧ mayB t b = false ∧ fitsB t s M i = false) ∨ (¬ pp ≤ s.room i ∧ fitsB t s M i = false) := by
                      rw [hfit]
                      by_cases h1 : pp ≤ s.room i
                      · cases h2 : mayB t b
                        · exact .inr (.inl ⟨h1, rfl, by simp⟩)
                        · exact .inl ⟨h1, rfl, by simp [h1]⟩
                      · exact .inr (.inr ⟨h1, by simp [h1]⟩)
                    rcases key with ⟨k1, k2, k3⟩ | ⟨k1, k2, k3⟩ | ⟨k1, k3⟩
                    · rw [if_pos k3] at hF
                      have eR : (pp ≤ s.room i) = True := eq_true k1
                      replace hsto := hsto k3
                      have hf1 := fewest_c t ht s K1 hs hK1
                      have hK2 := fwK_good hr8 hK1
                      have hf2 := fewest_c t ht to (fwK t s K1) hsto hK2
                      have hK3 := fwK_good (hsto.lt ht) hK2
                      have hvb := needV_bd (t := t) (s := to)
                      simp only [List.cons_append, findM] at hF
                      generalize fwK t to (fwK t s K1) = K3 at *
                      generalize fwK t s K1 = K2 at *
                      generalize needV t s = v1 at *
                      generalize needV t to = v2 at *
                      rw [k2] at hma
                      simp only [plH, plT, rT, plB, planC, busC, sl, townC, slH, slL, stC] at hbus hpe hma hf1 hf2 ⊢
                      by_cases hv : v1 = 1 + v2
                      · rw [if_pos hv] at hF
                        simp only [Prod.mk.injEq, Option.some.injEq] at hF
                        obtain ⟨rfl, rfl⟩ := hF
                        have eV : (v1 = 1 + v2) = True := eq_true hv
                        simp (maxSteps := 4000000) only [go_sem, seval]
                        (repeat' (first
 | (refine awp_ownN 5 rfl ?_; simp (maxSteps := 4000000) only [go_sem, seval, List.take_succ_cons, List.take_zero, e3, e4, hrm, eR, decide_true, hsp, hr0, hr1, hr2]; (repeat refine And.intro (by omega) ?_); refine own_go (hbus) [4, 3] rfl ?_ ?_ rfl ?_ <;> try simp (maxSteps := 4000000) only [go_sem, seval, Nat.lt_irrefl, e3, e4, hrm, eR, decide_true, hsp, hr0, hr1, hr2] <;> try decide)
 | (refine awp_ownN 2 rfl ?_; simp (maxSteps := 4000000) only [go_sem, seval, List.take_succ_cons, List.take_zero, e3, e4, hrm, eR, decide_true, hsp, hr0, hr1, hr2]; (repeat refine And.intro (by omega) ?_); refine own_go (hpe) [4, 3] rfl ?_ ?_ rfl ?_ <;> try simp (maxSteps := 4000000) only [go_sem, seval, Nat.lt_irrefl, e3, e4, hrm, eR, decide_true, hsp, hr0, hr1, hr2] <;> try decide)
 | (refine awp_ownN (id := 9) 9 rfl ?_; simp (maxSteps := 4000000) only [go_sem, seval, List.take_succ_cons, List.take_zero, e3, e4, hrm, eR, decide_true, hsp, hr0, hr1, hr2])
 | (refine own_go (hma) [4, 3] rfl ?_ ?_ rfl ?_ <;> try simp (maxSteps := 4000000) only [go_sem, seval, Nat.lt_irrefl, e3, e4, hrm, eR, decide_true, hsp, hr0, hr1, hr2] <;> try decide)
 | ((exfalso; omega))
 | ((refine awp_ownN 3 rfl ?_; simp (maxSteps := 4000000) only [go_sem, seval, List.take_succ_cons, List.take_zero]; refine callH_yield false (plH t to (L ++ [b]) K3 ++ ([some (.cells 116 1 0 [.ptr 4 0 0]), some (.cells 121 1 0 (stC s))] ++ [some (.dfr true), some (.loop .done (some (.exit 2)) 0 rT #[31, 32] ca cb 10)]) ++ [some (.cells 87 1 0 (busC b)), some (.cells 121 1 0 (stC to))]) ?_ ?_ <;> simp only [plH, plT, rT, plB, planC, busC, sl, townC, slH, slL, stC] <;> (try simp (maxSteps := 4000000) only [go_sem, seval])))
 | refine awp_seqK ?_
 | refine kt ?_
 | refine And.intro ?_ ?_
 | ((first | refine awp_stp rfl ?_ | refine awp_draw (by kernel_rfl) (by kernel_rfl) ?_ | refine Imp.le2 ?_ | refine go_split (fun _h => ?_) (fun _h => ?_)) <;> try simp (maxSteps := 4000000) only [go_sem, seval, e3, e4, hrm, eR, decide_true, hsp, hr0, hr1, hr2])
 | intro _h
 | refine awp_block ?_
 | refine awp_scope ?_
 | refine cond_b ?_ ?_
 | (show heapOK _ _ = true; kernel_rfl)
 | (show heapOK2 _ _ = true; kernel_rfl)
 | (omega)))
                        · refine semY_of_awpZ rfl rfl ?_
                          intro B w0 l m w
                          refine awp_code hca ?_
                          (repeat' (first
 | refine awp_seqK ?_
 | refine kt ?_
 | refine And.intro ?_ ?_
 | ((first | refine awp_stp rfl ?_ | refine awp_draw (by kernel_rfl) (by kernel_rfl) ?_ | refine Imp.le2 ?_ | refine go_split (fun _h => ?_) (fun _h => ?_)) <;> try simp (maxSteps := 4000000) only [go_sem, seval])
 | intro _h
 | refine awp_block ?_
 | refine awp_scope ?_
 | refine cond_b ?_ ?_
 | (show heapOK _ _ = true; kernel_rfl)
 | (show heapOK2 _ _ = true; kernel_rfl)
 | (omega)))
                          refine awp_code hcb ?_
                          (repeat' (first
 | refine awp_seqK ?_
 | refine kt ?_
 | refine And.intro ?_ ?_
 | ((first | refine awp_stp rfl ?_ | refine Imp.le2 ?_ | refine go_split (fun _h => ?_) (fun _h => ?_)) <;> try simp (maxSteps := 4000000) only [go_sem, seval])
 | intro _h
 | refine awp_block ?_
 | refine awp_scope ?_
 | refine cond_b ?_ ?_
 | (show heapOK _ _ = true; kernel_rfl)
 | (show heapOK2 _ _ = true; kernel_rfl)
 | (omega)))
                          ((repeat refine awp_seqK ?_); refine awp_draws [(2, [3]), (2, [3])] (by kernel_rfl) (by kernel_rfl) ?_; simp (maxSteps := 4000000) only [go_sem, seval, sg_cons, sg_nil, List.take_succ_cons, List.take_zero, List.drop_succ_cons, List.drop_zero])
                          (refine own_go (hf1) [4, 3] rfl (by simp (maxSteps := 4000000) only [go_sem, seval]) (by simp (maxSteps := 4000000) only [go_sem, seval, Nat.lt_irrefl] <;> decide) rfl ?_; simp (maxSteps := 4000000) only [go_sem, seval]; refine And.intro (frm_of (by repeat (first | exact rfl | exact ⟨_, rfl⟩ | refine And.intro ?_ ?_))) ?_; try simp (maxSteps := 4000000) only [go_sem, seval, sg_cons, sg_nil, List.take_succ_cons, List.take_zero, List.drop_succ_cons, List.drop_zero])
                          (refine own_go (hf2) [4, 3] rfl (by simp (maxSteps := 4000000) only [go_sem, seval]) (by simp (maxSteps := 4000000) only [go_sem, seval, Nat.lt_irrefl] <;> decide) rfl ?_; simp (maxSteps := 4000000) only [go_sem, seval]; refine And.intro (frm_of (by repeat (first | exact rfl | exact ⟨_, rfl⟩ | refine And.intro ?_ ?_))) ?_; try simp (maxSteps := 4000000) only [go_sem, seval, sg_cons, sg_nil, List.take_succ_cons, List.take_zero, List.drop_succ_cons, List.drop_zero])
                          have hsn : recs busC L ++ [.int .i64 b.leave, .int .i64 b.hall, .psl false b.homes.length (ints b.homes)] = recs busC (L ++ [b]) := by rw [recs_snoc]; rfl
                          have hlb : (L ++ [b]).length = L.length + 1 := by simp
                          have e23 : ((2 : Nat) = 3) = False := eq_false (by decide)
                          (repeat' (first
 | refine awp_seqK ?_
 | refine kt ?_
 | refine And.intro ?_ ?_
 | ((first | refine awp_stp rfl ?_ | refine awp_draw (by kernel_rfl) (by kernel_rfl) ?_ | refine Imp.le2 ?_ | refine go_split (fun _h => ?_) (fun _h => ?_)) <;> try simp (maxSteps := 4000000) only [go_sem, seval, eV, decide_true, hsn, hlb, e23, if_false])
 | intro _h
 | refine awp_block ?_
 | refine awp_scope ?_
 | refine cond_b ?_ ?_
 | (show heapOK _ _ = true; kernel_rfl)
 | (show heapOK2 _ _ = true; kernel_rfl)
 | (omega)))
                          all_goals trace_state
                      · rw [if_neg hv] at hF
                        have eV : (v1 = 1 + v2) = False := eq_false hv
                        simp (maxSteps := 4000000) only [go_sem, seval]
                        (repeat' (first
 | (refine awp_ownN 5 rfl ?_; simp (maxSteps := 4000000) only [go_sem, seval, List.take_succ_cons, List.take_zero, e3, e4, hrm, eR, decide_true, hsp, hr0, hr1, hr2]; (repeat refine And.intro (by omega) ?_); refine own_go (hbus) [4, 3] rfl ?_ ?_ rfl ?_ <;> try simp (maxSteps := 4000000) only [go_sem, seval, Nat.lt_irrefl, e3, e4, hrm, eR, decide_true, hsp, hr0, hr1, hr2] <;> try decide)
 | (refine awp_ownN 2 rfl ?_; simp (maxSteps := 4000000) only [go_sem, seval, List.take_succ_cons, List.take_zero, e3, e4, hrm, eR, decide_true, hsp, hr0, hr1, hr2]; (repeat refine And.intro (by omega) ?_); refine own_go (hpe) [4, 3] rfl ?_ ?_ rfl ?_ <;> try simp (maxSteps := 4000000) only [go_sem, seval, Nat.lt_irrefl, e3, e4, hrm, eR, decide_true, hsp, hr0, hr1, hr2] <;> try decide)
 | (refine awp_ownN (id := 9) 9 rfl ?_; simp (maxSteps := 4000000) only [go_sem, seval, List.take_succ_cons, List.take_zero, e3, e4, hrm, eR, decide_true, hsp, hr0, hr1, hr2])
 | (refine own_go (hma) [4, 3] rfl ?_ ?_ rfl ?_ <;> try simp (maxSteps := 4000000) only [go_sem, seval, Nat.lt_irrefl, e3, e4, hrm, eR, decide_true, hsp, hr0, hr1, hr2] <;> try decide)
 | ((exfalso; omega))
 | ((refine awp_ownN 3 rfl ?_; simp (maxSteps := 4000000) only [go_sem, seval, List.take_succ_cons, List.take_zero]; refine callH_yield true (plH t s L K3 ++ ([some (.cells 116 1 0 [.ptr 4 0 0]), some (.cells 121 1 0 (stC s))] ++ [some (.dfr true), some (.loop .ready none 0 rT #[31, 32] ca cb 10)]) ++ [some (.cells 87 1 0 (busC b)), some (.cells 121 1 0 (stC to))]) ?_ ?_ <;> simp only [plH, plT, rT, plB, planC, busC, sl, townC, slH, slL, stC] <;> (try simp (maxSteps := 4000000) only [go_sem, seval])))
 | refine awp_seqK ?_
 | refine kt ?_
 | refine And.intro ?_ ?_
 | ((first | refine awp_stp rfl ?_ | refine awp_draw (by kernel_rfl) (by kernel_rfl) ?_ | refine Imp.le2 ?_ | refine go_split (fun _h => ?_) (fun _h => ?_)) <;> try simp (maxSteps := 4000000) only [go_sem, seval, e3, e4, hrm, eR, decide_true, hsp, hr0, hr1, hr2])
 | intro _h
 | refine awp_block ?_
 | refine awp_scope ?_
 | refine cond_b ?_ ?_
 | (show heapOK _ _ = true; kernel_rfl)
 | (show heapOK2 _ _ = true; kernel_rfl)
 | (omega)))
                        · refine semY_of_awpZ rfl rfl ?_
                          intro B w0 l m w
                          refine awp_code hca ?_
                          (repeat' (first
 | refine awp_seqK ?_
 | refine kt ?_
 | refine And.intro ?_ ?_
 | ((first | refine awp_stp rfl ?_ | refine awp_draw (by kernel_rfl) (by kernel_rfl) ?_ | refine Imp.le2 ?_ | refine go_split (fun _h => ?_) (fun _h => ?_)) <;> try simp (maxSteps := 4000000) only [go_sem, seval])
 | intro _h
 | refine awp_block ?_
 | refine awp_scope ?_
 | refine cond_b ?_ ?_
 | (show heapOK _ _ = true; kernel_rfl)
 | (show heapOK2 _ _ = true; kernel_rfl)
 | (omega)))
                          refine awp_code hcb ?_
                          (repeat' (first
 | refine awp_seqK ?_
 | refine kt ?_
 | refine And.intro ?_ ?_
 | ((first | refine awp_stp rfl ?_ | refine Imp.le2 ?_ | refine go_split (fun _h => ?_) (fun _h => ?_)) <;> try simp (maxSteps := 4000000) only [go_sem, seval])
 | intro _h
 | refine awp_block ?_
 | refine awp_scope ?_
 | refine cond_b ?_ ?_
 | (show heapOK _ _ = true; kernel_rfl)
 | (show heapOK2 _ _ = true; kernel_rfl)
 | (omega)))
                          ((repeat refine awp_seqK ?_); refine awp_draws [(2, [3]), (2, [3])] (by kernel_rfl) (by kernel_rfl) ?_; simp (maxSteps := 4000000) only [go_sem, seval, sg_cons, sg_nil, List.take_succ_cons, List.take_zero, List.drop_succ_cons, List.drop_zero])
                          (refine own_go (hf1) [4, 3] rfl (by simp (maxSteps := 4000000) only [go_sem, seval]) (by simp (maxSteps := 4000000) only [go_sem, seval, Nat.lt_irrefl] <;> decide) rfl ?_; simp (maxSteps := 4000000) only [go_sem, seval]; refine And.intro (frm_of (by repeat (first | exact rfl | exact ⟨_, rfl⟩ | refine And.intro ?_ ?_))) ?_; try simp (maxSteps := 4000000) only [go_sem, seval, sg_cons, sg_nil, List.take_succ_cons, List.take_zero, List.drop_succ_cons, List.drop_zero])
                          (refine own_go (hf2) [4, 3] rfl (by simp (maxSteps := 4000000) only [go_sem, seval]) (by simp (maxSteps := 4000000) only [go_sem, seval, Nat.lt_irrefl] <;> decide) rfl ?_; simp (maxSteps := 4000000) only [go_sem, seval]; refine And.intro (frm_of (by repeat (first | exact rfl | exact ⟨_, rfl⟩ | refine And.intro ?_ ?_))) ?_; try simp (maxSteps := 4000000) only [go_sem, seval, sg_cons, sg_nil, List.take_succ_cons, List.take_zero, List.drop_succ_cons, List.drop_zero])
                          (repeat' (first
 | refine awp_seqK ?_
 | refine kt ?_
 | refine And.intro ?_ ?_
 | ((first | refine awp_stp rfl ?_ | refine awp_draw (by kernel_rfl) (by kernel_rfl) ?_ | refine Imp.le2 ?_ | refine go_split (fun _h => ?_) (fun _h => ?_)) <;> try simp (maxSteps := 4000000) only [go_sem, seval, eV, decide_false])
 | intro _h
 | refine awp_block ?_
 | refine awp_scope ?_
 | refine cond_b ?_ ?_
 | (show heapOK _ _ = true; kernel_rfl)
 | (show heapOK2 _ _ = true; kernel_rfl)
 | (omega)))
                        · refine ⟨(i + 1, K3), ⟨by simp only; omega, hK3, hF⟩, by simp only; omega, .le2 ?_⟩
                          simp only [plH, plT, rT, plB, planC, busC, sl, townC, slH, slL, stC]; simp (maxSteps := 4000000) only [go_sem, seval]
                          try (first | rfl | exact ⟨rfl, rfl⟩)
                    · rw [if_neg (by rw [k3]; simp)] at hF
                      have eR : (pp ≤ s.room i) = True := eq_true k1
                      rw [k2] at hma
                      simp only [plH, plT, rT, plB, planC, busC, sl, townC, slH, slL, stC] at hbus hpe hma ⊢
                      simp (maxSteps := 4000000) only [go_sem, seval]
                      (repeat' (first
 | (refine awp_ownN 5 rfl ?_; simp (maxSteps := 4000000) only [go_sem, seval, List.take_succ_cons, List.take_zero, e3, e4, hrm, eR, decide_true]; (repeat refine And.intro (by omega) ?_); refine own_go (hbus) [4, 3] rfl ?_ ?_ rfl ?_ <;> try simp (maxSteps := 4000000) only [go_sem, seval, Nat.lt_irrefl, e3, e4, hrm, eR, decide_true] <;> try decide)
 | (refine awp_ownN 2 rfl ?_; simp (maxSteps := 4000000) only [go_sem, seval, List.take_succ_cons, List.take_zero, e3, e4, hrm, eR, decide_true]; (repeat refine And.intro (by omega) ?_); refine own_go (hpe) [4, 3] rfl ?_ ?_ rfl ?_ <;> try simp (maxSteps := 4000000) only [go_sem, seval, Nat.lt_irrefl, e3, e4, hrm, eR, decide_true] <;> try decide)
 | (refine awp_ownN (id := 9) 9 rfl ?_; simp (maxSteps := 4000000) only [go_sem, seval, List.take_succ_cons, List.take_zero, e3, e4, hrm, eR, decide_true])
 | (refine own_go (hma) [4, 3] rfl ?_ ?_ rfl ?_ <;> try simp (maxSteps := 4000000) only [go_sem, seval, Nat.lt_irrefl, e3, e4, hrm, eR, decide_true] <;> try decide)
 | ((exfalso; omega))
 | refine awp_seqK ?_
 | refine kt ?_
 | refine And.intro ?_ ?_
 | ((first | refine awp_stp rfl ?_ | refine awp_draw (by kernel_rfl) (by kernel_rfl) ?_ | refine Imp.le2 ?_ | refine go_split (fun _h => ?_) (fun _h => ?_)) <;> try simp (maxSteps := 4000000) only [go_sem, seval, e3, e4, hrm, eR, decide_true])
 | intro _h
 | refine awp_block ?_
 | refine awp_scope ?_
 | refine cond_b ?_ ?_
 | (show heapOK _ _ = true; kernel_rfl)
 | (show heapOK2 _ _ = true; kernel_rfl)
 | (omega)))
                      refine ⟨(i + 1, K1), ⟨by simp only; omega, hK1, hF⟩, by simp only; omega, .le2 ?_⟩
                      simp only [plH, plT, rT, plB, planC, busC, sl, townC, slH, slL, stC]; simp (maxSteps := 4000000) only [go_sem, seval]
                      try (first | rfl | exact ⟨rfl, rfl⟩)
                    · rw [if_neg (by rw [k3]; simp)] at hF
                      have eR : (pp ≤ s.room i) = False := eq_false k1
                      simp only [plH, plT, rT, plB, planC, busC, sl, townC, slH, slL, stC] at hbus hpe hma ⊢
                      simp (maxSteps := 4000000) only [go_sem, seval]
                      (repeat' (first
 | (refine awp_ownN 5 rfl ?_; simp (maxSteps := 4000000) only [go_sem, seval, List.take_succ_cons, List.take_zero, e3, e4, hrm, eR, decide_false]; (repeat refine And.intro (by omega) ?_); refine own_go (hbus) [4, 3] rfl ?_ ?_ rfl ?_ <;> try simp (maxSteps := 4000000) only [go_sem, seval, Nat.lt_irrefl, e3, e4, hrm, eR, decide_false] <;> try decide)
 | (refine awp_ownN 2 rfl ?_; simp (maxSteps := 4000000) only [go_sem, seval, List.take_succ_cons, List.take_zero, e3, e4, hrm, eR, decide_false]; (repeat refine And.intro (by omega) ?_); refine own_go (hpe) [4, 3] rfl ?_ ?_ rfl ?_ <;> try simp (maxSteps := 4000000) only [go_sem, seval, Nat.lt_irrefl, e3, e4, hrm, eR, decide_false] <;> try decide)
 | ((exfalso; omega))
 | refine awp_seqK ?_
 | refine kt ?_
 | refine And.intro ?_ ?_
 | ((first | refine awp_stp rfl ?_ | refine awp_draw (by kernel_rfl) (by kernel_rfl) ?_ | refine Imp.le2 ?_ | refine go_split (fun _h => ?_) (fun _h => ?_)) <;> try simp (maxSteps := 4000000) only [go_sem, seval, e3, e4, hrm, eR, decide_false])
 | intro _h
 | refine awp_block ?_
 | refine awp_scope ?_
 | refine cond_b ?_ ?_
 | (show heapOK _ _ = true; kernel_rfl)
 | (show heapOK2 _ _ = true; kernel_rfl)
 | (omega)))
                      refine ⟨(i + 1, K1), ⟨by simp only; omega, hK1, hF⟩, by simp only; omega, .le2 ?_⟩
                      simp only [plH, plT, rT, plB, planC, busC, sl, townC, slH, slL, stC]; simp (maxSteps := 4000000) only [go_sem, seval]
                      try (first | rfl | exact ⟨rfl, rfl⟩)
                  · subst hi1
                    rw [Nat.sub_self] at hF
                    simp only [hallsL, List.nil_append] at hF
                    by_cases hx0 : x = 0
                    · subst hx0
                      rw [if_pos rfl] at hF
                      simp only [candL, findM, Prod.mk.injEq, reduceCtorEq, false_and] at hF
                    · rw [if_neg hx0] at hF
                      have eX : ((x : Int) = 0) = False := eq_false (by omega)
                      have e5 : IntKind.u8.wrap ((x : Int) - 1) = ((x - 1 : Nat) : Int) := sub_nat hx8 hx0
                      have e6 : u8and ((x - 1 : Nat) : Int) (othB s.rest : Nat) = (((x - 1) &&& othB s.rest : Nat) : Int) := u8and_nat (by omega) (ndiff_lt hr8)
                      simp only [plH, plT, rT, plB, planC, busC, sl, townC, slH, slL, stC]; simp (maxSteps := 4000000) only [go_sem, seval]
                      (repeat' (first
 | ((exfalso; omega))
 | refine awp_seqK ?_
 | refine kt ?_
 | refine And.intro ?_ ?_
 | ((first | refine awp_stp rfl ?_ | refine awp_draw (by kernel_rfl) (by kernel_rfl) ?_ | refine Imp.le2 ?_ | refine go_split (fun _h => ?_) (fun _h => ?_)) <;> try simp (maxSteps := 4000000) only [go_sem, seval, eX, e5, e6, decide_false])
 | intro _h
 | refine awp_block ?_
 | refine awp_scope ?_
 | refine cond_b ?_ ?_
 | (show heapOK _ _ = true; kernel_rfl)
 | (show heapOK2 _ _ = true; kernel_rfl)
 | (omega)))
                      have hax : (x - 1) &&& othB s.rest ≤ x - 1 := Nat.and_le_left
                      refine ⟨((x - 1) &&& othB s.rest, K1), ⟨by simp only; rw [Nat.and_assoc, Nat.and_self], hK1, hF⟩, by simp only; omega, .le2 ?_⟩
                      simp only [plH, plT, rT, plB, planC, busC, sl, townC, slH, slL, stC]; simp (maxSteps := 4000000) only [go_sem, seval]
                      try (first | rfl | exact ⟨rfl, rfl⟩)
            · rfl
            · simp only [plH, plT, rT, plB, planC, busC, sl, townC, slH, slL, stC]
              simp (maxSteps := 4000000) only [go_sem, seval]
              refine ⟨(f, p.2, KE, L ++ [p.1]), ⟨hps, by simp only; omega, ?_, by simp only; have := needV_bd (t := t) (s := p.2); omega, by rw [List.append_assoc]; exact hLP⟩, by simp only; exact hpr, ?_⟩
              · exact hKE
              · simp only [plH, plT, rT, plB, planC, busC, sl, townC, slH, slL, stC]
                refine Imp.hide (fun _ => rfl) ?_ ?_
                · simp (maxSteps := 4000000) only [go_sem, seval]
                · simp [hidD, hget]
  · have e0 : (faultT t = 0) = False := eq_false h0
    have e1 : planE t = faultT t := by simp [planE, h0]
    simp only [planV, e1, h0, if_false]
    simp only [townC, slH, slL] at hch
    (refine callS_of_awp (fun w args => Tryz.call18 ..) Tryz.func18 rfl (fun w0 m0 wz => ?_); simp only [Tryz.ntmps18, Tryz.results18, initT, junks, homeC, hallC, slH, slL, townC, sl, List.toList_toArray, List.cons_append, List.nil_append, List.length_cons, List.length_nil, Nat.reduceAdd, Nat.reduceSub])
    (repeat' (first
 | refine awp_seqK ?_
 | refine kt ?_
 | refine And.intro ?_ ?_
 | ((first | refine awp_stp rfl ?_ | refine awp_draw (by kernel_rfl) (by kernel_rfl) ?_ | refine Imp.le2 ?_ | refine callK_of (hch) ?_ | refine go_split (fun _h => ?_) (fun _h => ?_)) <;> try simp (maxSteps := 4000000) only [go_sem, seval, e0, decide_false])
 | intro _h
 | refine awp_block ?_
 | refine awp_scope ?_
 | refine cond_b ?_ ?_
 | (show heapOK _ _ = true; kernel_rfl)
 | (show heapOK2 _ _ = true; kernel_rfl)
 | (omega)))
end Go.Am
namespace Go.Am
open Go.RowKit Go.Proofs
set_option linter.unusedSimpArgs false
set_option linter.unusedVariables false
theorem leaveL_ge {t : Town} {l : List Int} : ∀ k, 0 ≤ leaveL t l k
  | 0 => Int.le_refl _
  | k + 1 => by
    have := leaveL_ge (t := t) (l := l) k
    simp only [leaveL]; omega
structure BusP (t : Town) (b : Bus) : Prop where
  hall : 0 ≤ b.hall ∧ b.hall < t.halls.length
  leave : 0 ≤ b.leave ∧ b.leave ≤ 10000
  homes : b.homes.length ≤ 8
  gone : ∀ x ∈ b.homes, (0 ≤ x ∧ x < t.homes.length) ∧ b.leave + (t.halls.getD b.hall.toNat default).drive ≤ (t.homes.getD x.toNat default).gone
theorem mkBus_p {t : Town} {s : Sta} {m j : Nat} (ht : TownOK t) (hs : m < 2 ^ t.homes.length) (hj : j < t.halls.length) (hf : fitsB t s m j = true) : BusP t (mkBus t m j) := by
  unfold fitsB at hf
  rw [Bool.and_eq_true] at hf
  have hm := hf.2
  unfold mayB at hm
  simp only [Bool.and_eq_true] at hm
  have htm := hm.2
  rw [List.all_eq_true] at htm
  have hlen : ∀ k, (lstN m k).length ≤ k := fun k => by
    induction k with
    | zero => simp [lstN]
    | succ k ih => simp only [lstN]; split <;> (try simp) <;> omega
  have hrg : ∀ x ∈ lst m, 0 ≤ x ∧ x < t.homes.length := fun x hx => by
    have hxr := (lstN_mem (m := m) (k := 8)).1 hx
    have hxh : x.toNat < t.homes.length := by
      apply Classical.byContradiction
      intro h
      have h2 : 2 ^ t.homes.length ≤ 2 ^ x.toNat := Nat.pow_le_pow_right (by omega) (by omega)
      have := Nat.testBit_lt_two_pow (show m < 2 ^ x.toNat by omega)
      rw [this] at hxr; simp at hxr
    omega
  refine ⟨⟨by show (0 : Int) ≤ (j : Int); omega, by show (j : Int) < _; omega⟩, ⟨leaveL_ge _, ?_⟩, hlen 8, fun x hx => ⟨hrg x hx, (of_decide_eq_true (htm x hx)).2⟩⟩
  cases hl : lst m with
  | nil =>
    show leaveL t (lst m) (lst m).length ≤ 10000
    rw [hl]; simp [leaveL]
  | cons x l =>
    have hx : x ∈ lst m := by rw [hl]; simp
    have h1 := of_decide_eq_true (htm x hx)
    have hxr := (lstN_mem (m := m) (k := 8)).1 hx
    have hxh : x.toNat < t.homes.length := by
      apply Classical.byContradiction
      intro h
      have h2 : 2 ^ t.homes.length ≤ 2 ^ x.toNat := Nat.pow_le_pow_right (by omega) (by omega)
      have := Nat.testBit_lt_two_pow (show m < 2 ^ x.toNat by omega)
      rw [this] at hxr; simp at hxr
    have h2 := (ht.home x.toNat hxh).gone
    have h3 : 0 ≤ (t.halls.getD (mkBus t m j).hall.toNat default).drive := by
      have : (mkBus t m j).hall.toNat = j := by show ((j : Int)).toNat = j; omega
      rw [this]
      exact (ht.hall j hj).drive.1
    omega
theorem planF_p {t : Town} (ht : TownOK t) : ∀ (f : Nat) (s : Sta), StOK t s → ∀ b ∈ planF t f s, BusP t b
  | 0, s, _, b, hb => by simp [planF] at hb
  | f + 1, s, hs, b, hb => by
    simp only [planF] at hb
    split at hb
    · cases hb
    · rename_i h0
      split at hb
      · rename_i p hp
        have hr : s.rest < 256 := hs.lt ht
        have hmem := List.mem_of_find?_eq_some hp
        obtain ⟨x, j, h1, h2, h3, rfl⟩ := (nextL_mem hr).1 hmem
        have hsub := mask_sub hr h1
        have hlt : lowB s.rest ||| x < 2 ^ t.homes.length := Nat.lt_of_le_of_lt (sub_le hsub) hs.1
        rcases List.mem_cons.1 hb with rfl | hb
        · exact mkBus_p ht hlt h2 h3
        · exact planF_p ht f _ (toSt_ok ht hs h0 h1 h2 h3) b hb
      · cases hb
theorem planL_p {t : Town} (ht : TownOK t) {b : Bus} (hb : b ∈ planL t) : BusP t b := planF_p ht 256 _ (stBeg_ok ht (Nat.le_refl _)) b hb
def thV (t : Town) (b : Bus) : Int := b.leave + (t.halls.getD b.hall.toNat default).drive
theorem thV_bd {t : Town} {b : Bus} (ht : TownOK t) (hb : BusP t b) : 0 ≤ thV t b ∧ thV t b ≤ 11000 := by
  have h1 := hb.leave
  have h2 := hb.hall
  have h3 := (ht.hall b.hall.toNat (by omega)).drive
  unfold thV; omega
def lastK (t : Town) (L : List Bus) : Nat → Int
  | 0 => 0
  | k + 1 => max (lastK t L k) (thV t (L.getD k default))
theorem lastK_ge {t : Town} {L : List Bus} : ∀ {n k : Nat}, k < n → thV t (L.getD k default) ≤ lastK t L n
  | n + 1, k, h => by
    simp only [lastK]
    by_cases e : k = n
    · subst e; omega
    · have := lastK_ge (t := t) (L := L) (n := n) (k := k) (by omega)
      omega
theorem lastK_bd {t : Town} {L : List Bus} (h : ∀ k, k < L.length → 0 ≤ thV t (L.getD k default) ∧ thV t (L.getD k default) ≤ 11000) : ∀ n, n ≤ L.length → 0 ≤ lastK t L n ∧ lastK t L n ≤ 11000
  | 0, _ => by simp [lastK]
  | n + 1, hn => by
    have := lastK_bd h n (by omega)
    have := h n (by omega)
    simp only [lastK]; omega
end Go.Am
namespace Go.Am
open Go.RowKit Go.Proofs
attribute [local irreducible] AWP CallS Kt goK CallK stepK evOps SemF SemY Imp
set_option maxRecDepth 4000
set_option linter.unusedSimpArgs false
set_option linter.unusedVariables false
set_option maxHeartbeats 1600000
theorem ld_B49 {l : List Bus} {i : Nat} {K : AV → Prop} : loadK Tryz.prog 87 (recs busC l) (i * 3) K = (i < l.length ∧ K (.agg (busC (l.getD i default)))) := ld_recs tagg87 tsz87 (fun _ => rfl) (by omega)
attribute [go_sem ↓] ld_B49
theorem there_c (t : Town) (b : Bus) (ht : TownOK t) (hb : BusP t b) : CallS Tryz.prog 23 [.agg (townC t), .agg (busC b)] (.int .i64 (thV t b)) := by
  have h1 := hb.hall
  have h2 := hb.leave
  have h3 := (ht.hall b.hall.toNat (by omega)).drive
  unfold thV
  simp only [busC, sl]
  (refine callS_of_awp (fun w args => Tryz.call23 ..) Tryz.func23 rfl (fun w0 m0 wz => ?_); simp only [Tryz.ntmps23, Tryz.results23, initT, junks, homeC, hallC, slH, slL, townC, busC, slB, sl, List.toList_toArray, List.cons_append, List.nil_append, List.length_cons, List.length_nil, Nat.reduceAdd, Nat.reduceSub])
  (repeat' (first
 | ((exfalso; omega))
 | ((omega))
 | refine awp_seqK ?_
 | refine kt ?_
 | refine And.intro ?_ ?_
 | ((first | refine awp_stp rfl ?_ | refine awp_draw (by kernel_rfl) (by kernel_rfl) ?_ | refine Imp.le2 ?_ | refine go_split (fun _h => ?_) (fun _h => ?_)) <;> try simp (maxSteps := 4000000) only [go_sem, seval])
 | intro _h
 | refine awp_block ?_
 | refine awp_scope ?_
 | refine cond_b ?_ ?_
 | (show heapOK _ _ = true; kernel_rfl)
 | (show heapOK2 _ _ = true; kernel_rfl)
 | (omega)))
  all_goals trace_state
def lvT : Town := ⟨[⟨1, 0, 0, 0, 0, 5⟩], [⟨1, 0, 5⟩], 1, 0, 0⟩
theorem lv_PE : planE lvT = 0 := by kernel_rfl
theorem lv_PL : planL lvT = [⟨0, 0, [0]⟩] := by kernel_rfl
end Go.Am
