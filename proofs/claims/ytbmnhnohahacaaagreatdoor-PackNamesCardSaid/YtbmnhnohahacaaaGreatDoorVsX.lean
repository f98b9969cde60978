/-
  VALUE SEMANTICS, PART X. An evaluator: closed runs, in whatever order a map hands its entries out, decided by evaluation.
-/
import Derived.Test.YtbmnhnohahacaaaGreatDoorVsW
namespace Go.VS
open Go.RowKit
set_option linter.unusedSimpArgs false
set_option linter.unusedVariables false
set_option maxRecDepth 4000

/-! ### places, for evaluation -/

inductive Tr where
  | nil
  | node (l : Tr) (v : Option AObj) (r : Tr)

def Tr.get : Tr → Nat → Option AObj
  | .nil, _ => none
  | .node l v r, k => match k with
    | 0 => v
    | k + 1 => if k % 2 = 0 then l.get (k / 2) else r.get (k / 2)

def Tr.set : Nat → Tr → Nat → Option AObj → Tr
  | 0, t, _, _ => t
  | d + 1, t, k, x => match t with
    | .nil => match k with
      | 0 => .node .nil x .nil
      | k + 1 => if k % 2 = 0 then .node (Tr.set d .nil (k / 2) x) none .nil else .node .nil none (Tr.set d .nil (k / 2) x)
    | .node l v r => match k with
      | 0 => .node l x r
      | k + 1 => if k % 2 = 0 then .node (Tr.set d l (k / 2) x) v r else .node l v (Tr.set d r (k / 2) x)

theorem Tr.get_set : ∀ (d : Nat) (t : Tr) (k j : Nat) (x : Option AObj), k + 1 < 2 ^ d → (Tr.set d t k x).get j = if j = k then x else t.get j
  | 0, t, k, j, x, h => by simp at h
  | d + 1, t, k, j, x, h => by
    have ih := fun t k j => Tr.get_set d t k j x
    cases t with
    | nil =>
      cases k with
      | zero => cases j <;> simp [Tr.set, Tr.get]
      | succ k =>
        have hk : k / 2 + 1 < 2 ^ d := by rw [Nat.pow_succ] at h; omega
        simp only [Tr.set]
        split
        · cases j with
          | zero => simp [Tr.get]
          | succ j =>
            simp only [Tr.get]
            by_cases hj : j % 2 = 0
            · rw [if_pos hj, ih _ _ _ hk]; simp only [Tr.get]
              by_cases e : j = k
              · subst e; simp
              · rw [if_neg (by omega), if_neg (by omega)]
            · rw [if_neg hj, if_neg (by omega)]
        · cases j with
          | zero => simp [Tr.get]
          | succ j =>
            simp only [Tr.get]
            by_cases hj : j % 2 = 0
            · rw [if_pos hj, if_neg (by omega)]
            · rw [if_neg hj, ih _ _ _ hk]; simp only [Tr.get]
              by_cases e : j = k
              · subst e; simp
              · rw [if_neg (by omega), if_neg (by omega)]
    | node l v r =>
      cases k with
      | zero => cases j <;> simp [Tr.set, Tr.get]
      | succ k =>
        have hk : k / 2 + 1 < 2 ^ d := by rw [Nat.pow_succ] at h; omega
        simp only [Tr.set]
        split
        · cases j with
          | zero => simp [Tr.get]
          | succ j =>
            simp only [Tr.get]
            by_cases hj : j % 2 = 0
            · rw [if_pos hj, if_pos hj, ih _ _ _ hk]
              by_cases e : j = k
              · subst e; simp
              · rw [if_neg (by omega), if_neg (by omega)]
            · rw [if_neg hj, if_neg (by omega), if_neg hj]
        · cases j with
          | zero => simp [Tr.get]
          | succ j =>
            simp only [Tr.get]
            by_cases hj : j % 2 = 0
            · rw [if_pos hj, if_neg (by omega), if_pos hj]
            · rw [if_neg hj, if_neg hj, ih _ _ _ hk]
              by_cases e : j = k
              · subst e; simp
              · rw [if_neg (by omega), if_neg (by omega)]

structure DS where
  t : Tr
  n : Nat

def DS.at (s : DS) (l : Nat) : Option AObj := if l < s.n then s.t.get l else none
def DS.as (s : DS) : AS := ⟨s.at, s.n⟩
theorem DS.as_at (s : DS) (l : Nat) : s.as l = s.at l := rfl
def DS.max : Nat := 1000000
def DS.new (s : DS) (o : AObj) : DS := ⟨Tr.set 24 s.t s.n (some o), s.n + 1⟩
def DS.put (s : DS) (l : Nat) (o : Option AObj) : DS := ⟨Tr.set 24 s.t l o, s.n⟩

theorem DS.as_new {s : DS} {o : AObj} (h : s.n < DS.max) : (s.new o).as = s.as.upd s.n o := by
  unfold DS.max at h
  unfold DS.as AS.upd
  congr 1
  · funext k
    show (if k < s.n + 1 then (Tr.set 24 s.t s.n (some o)).get k else none) = if k = s.n then some o else if k < s.n then s.t.get k else none
    rw [Tr.get_set _ _ _ _ _ (by omega)]
    by_cases hk : k = s.n
    · subst hk; simp
    · rw [if_neg hk, if_neg hk]
      split <;> split <;> first | rfl | (exfalso; omega)
  · show s.n + 1 = Nat.max s.n (s.n + 1); exact (Nat.max_eq_right (by omega)).symm
theorem DS.free (s : DS) : s.as s.n = none := by simp [DS.as_at, DS.at]
theorem DS.lt {s : DS} {l : Nat} {x : AObj} (h : s.at l = some x) : l < s.n := by
  unfold DS.at at h; split at h
  · assumption
  · cases h
theorem DS.as_put {s : DS} {l : Nat} {o : AObj} (h : s.n < DS.max) (hl : l < s.n) : (s.put l (some o)).as = s.as.upd l o := by
  unfold DS.max at h
  unfold DS.as AS.upd
  congr 1
  · funext k
    simp only [DS.at, DS.put]
    rw [Tr.get_set _ _ _ _ _ (by omega)]
    by_cases hk : k = l
    · subst hk; simp [hl]
    · rw [if_neg hk, if_neg hk]; rfl
  · show s.n = Nat.max s.n (l + 1); exact (Nat.max_eq_left (by omega)).symm
theorem DS.as_del {s : DS} {l : Nat} (h : s.n < DS.max) (hl : l < s.n) : (s.put l none).as = s.as.del l := by
  unfold DS.max at h
  unfold DS.as AS.del
  congr 1
  funext k
  simp only [DS.at, DS.put]
  rw [Tr.get_set _ _ _ _ _ (by omega)]
  by_cases hk : k = l
  · subst hk; simp
  · rw [if_neg hk, if_neg hk]; rfl

/-! ### operations -/

def stD (ev : XO → AV) (s : DS) : IOp → Option (AV × DS)
  | .load ag n x => match ev x with
    | .ptr l o => match s.at l with
      | some (.cells cs) => (partA ag cs o n).map fun v => (v, s)
      | _ => none
    | .iptr cs => (partA ag cs 0 n).map fun v => (v, s)
    | _ => none
  | .store n x v => match ev x with
    | .ptr l o => match s.at l with
      | some (.cells cs) => if (ev v).known = true ∧ (ev v).cells.length = n ∧ o + n ≤ cs.length then some (undefA, s.put l (some (.cells (setCells cs o (ev v).cells)))) else none
      | _ => none
    | _ => none
  | .mapget pl ok zero m k => if fitP pl (ev k) = true then match ev m with
    | .map l => match s.at l with
      | some (.map es _) => match lookA pl es (ev k) with
        | some (some v) => some (if ok then .tuple [v, .bool true] else v, s)
        | some none => some (if ok then .tuple [zero, .bool false] else zero, s)
        | none => none
      | _ => none
    | .nilmap => some (if ok then .tuple [zero, .bool false] else zero, s)
    | _ => none
    else none
  | .mapset pl m k v => if fitP pl (ev k) = true then match ev m with
    | .map l => match s.at l with
      | some (.map es st) => (setA pl es (ev k) (ev v)).map fun es' => (undefA, s.put l (some (.map es' (st.next es.length es'.length))))
      | _ => none
    | _ => none
    else none
  | .maplen m => match ev m with
    | .map l => match s.at l with
      | some (.map es _) => some (.int .i64 es.length, s)
      | _ => none
    | .nilmap => some (.int .i64 0, s)
    | _ => none
  | .entst m t v => match ev m, ev t with
    | .map l, .int .i64 b => match s.at l with
      | some (.map es st) => if 0 ≤ b then (stampSet b.toNat (ev v) st.bs es).map fun es' => (undefA, s.put l (some (.map es' st))) else none
      | _ => none
    | _, _ => none
  | .mentry x => match ev x with
    | .ptr it 0 => match s.at it with
      | some (.miter (some l) _ seen stepped) => match s.at l with
        | some (.map es st) => if st.clk = stepped then match seen.getLast? with
          | some b => (stampAt b st.bs es).map fun e => (.tuple [e.1, e.2], s)
          | none => none
          else none
        | _ => none
      | _ => none
    | _ => none
  | .nxt x => match ev x with
    | .ptr l 0 => match s.at l with
      | some (.iter t pos) =>
        if pos < t.length then
          let d := Utf8.decode ⟨t.toArray⟩ pos
          some (.tuple [.bool true, .int .i64 pos, .int .i32 d.1], s.put l (some (.iter t (pos + d.2))))
        else some (.tuple [.bool false], s)
      | _ => none
    | _ => none
  | _ => none

theorem stD_ok {ev : XO → AV} {s s' : DS} {o : IOp} {v : AV} (hn : s.n < DS.max) (h : stD ev s o = some (v, s')) : stOp ev s.as o = some (v, s'.as) := by
  cases o <;> simp only [stD] at h <;> try (cases h; done)
  case load ag n x =>
    simp only [stOp, DS.as_at]
    split at h
    · split at h
      · obtain ⟨y, h1, h2⟩ := map_some h
        simp only [Prod.mk.injEq] at h2; obtain ⟨rfl, rfl⟩ := h2
        rename_i he _ _ hs
        simp only [he, hs, h1, Option.map_some]
      · cases h
    · obtain ⟨y, h1, h2⟩ := map_some h
      simp only [Prod.mk.injEq] at h2; obtain ⟨rfl, rfl⟩ := h2
      rename_i he
      simp only [he, h1, Option.map_some]
    · cases h
  case store n x v =>
    simp only [stOp, DS.as_at]
    split at h
    · split at h
      · rename_i he _ cs hs
        split at h
        · rename_i hc
          simp only [Option.some.injEq, Prod.mk.injEq] at h; obtain ⟨rfl, rfl⟩ := h
          simp only [he, hs]
          rw [if_pos hc, DS.as_put hn (DS.lt hs)]
        · cases h
      · cases h
    · cases h
  case mapget pl ok z m k =>
    simp only [stOp, DS.as_at]
    split at h
    · rename_i hf
      rw [if_pos hf]
      split at h
      · split at h
        · rename_i he _ es st hs
          split at h
          · rename_i hl
            simp only [Option.some.injEq, Prod.mk.injEq] at h; obtain ⟨rfl, rfl⟩ := h
            simp only [he, hs, hl]
          · rename_i hl
            simp only [Option.some.injEq, Prod.mk.injEq] at h; obtain ⟨rfl, rfl⟩ := h
            simp only [he, hs, hl]
          · cases h
        · cases h
      · rename_i he
        simp only [Option.some.injEq, Prod.mk.injEq] at h; obtain ⟨rfl, rfl⟩ := h
        simp only [he]
      · cases h
    · cases h
  case mapset pl m k v =>
    simp only [stOp, DS.as_at]
    split at h
    · rename_i hf
      rw [if_pos hf]
      split at h
      · split at h
        · rename_i he _ es st hs
          obtain ⟨y, h1, h2⟩ := map_some h
          simp only [Prod.mk.injEq] at h2; obtain ⟨rfl, rfl⟩ := h2
          simp only [he, hs, h1, Option.map_some]
          rw [DS.as_put hn (DS.lt hs)]
        · cases h
      · cases h
    · cases h
  case maplen m =>
    simp only [stOp, DS.as_at]
    split at h
    · split at h
      · rename_i he _ es st hs
        simp only [Option.some.injEq, Prod.mk.injEq] at h; obtain ⟨rfl, rfl⟩ := h
        simp only [he, hs]
      · cases h
    · rename_i he
      simp only [Option.some.injEq, Prod.mk.injEq] at h; obtain ⟨rfl, rfl⟩ := h
      simp only [he]
    · cases h
  case entst m t v =>
    simp only [stOp, DS.as_at]
    split at h
    · split at h
      · rename_i he1 he2 _ es st hs
        split at h
        · rename_i hb
          obtain ⟨y, h1, h2⟩ := map_some h
          simp only [Prod.mk.injEq] at h2; obtain ⟨rfl, rfl⟩ := h2
          simp only [he1, he2, hs]
          rw [if_pos hb]
          simp only [h1, Option.map_some]
          rw [DS.as_put hn (DS.lt hs)]
        · cases h
      · cases h
    · cases h
  case mentry x =>
    simp only [stOp, DS.as_at]
    split at h
    · split at h
      · split at h
        · split at h
          · rename_i he _ _ _ _ _ hs _ _ _ hm hc
            split at h
            · rename_i b hb
              obtain ⟨y, h1, h2⟩ := map_some h
              simp only [Prod.mk.injEq] at h2; obtain ⟨rfl, rfl⟩ := h2
              simp only [he, hs, hm]
              rw [if_pos hc]
              simp only [hb, h1, Option.map_some]
            · cases h
          · cases h
        · cases h
      · cases h
    · cases h
  case nxt x =>
    simp only [stOp, DS.as_at]
    split at h
    · split at h
      · rename_i he _ t pos hs
        split at h
        · rename_i hp
          simp only [Option.some.injEq, Prod.mk.injEq] at h; obtain ⟨rfl, rfl⟩ := h
          simp only [he, hs]
          rw [if_pos hp, DS.as_put hn (DS.lt hs)]
        · rename_i hp
          simp only [Option.some.injEq, Prod.mk.injEq] at h; obtain ⟨rfl, rfl⟩ := h
          simp only [he, hs]
          rw [if_neg hp]
      · cases h
    · cases h

/-! ### what two ways on have in common -/

def fnB : Fn → Fn → Bool
  | .func a, .func b => a == b
  | _, _ => false
theorem fnB_eq : ∀ {a b : Fn}, fnB a b = true → a = b := by
  intro a b h
  cases a <;> cases b <;> simp [fnB] at h
  subst h; rfl
def tokB : Tok → Tok → Bool
  | .full, .full => true
  | .opn t g, .opn t' g' => t == t' && g == g'
  | .unk, .unk => true
  | _, _ => false
theorem tokB_eq {a b : Tok} (h : tokB a b = true) : a = b := by
  cases a <;> cases b <;> simp [tokB] at h <;> try rfl
  obtain ⟨h1, h2⟩ := h; subst h1 h2; rfl

mutual
def avB : AV → AV → Bool
  | .any, .any => true
  | .bool a, .bool b => a == b
  | .int k a, .int k' b => decide (k = k') && a == b
  | .str a, .str b => a == b
  | .nilptr, .nilptr => true
  | .ptr l o, .ptr l' o' => l == l' && o == o'
  | .iptr a, .iptr b => avsB a b
  | .slice n s es t, .slice n' s' es' t' => n == n' && s == s' && tokB t t' && avsB es es'
  | .nilmap, .nilmap => true
  | .map l, .map l' => l == l'
  | .func f a b, .func f' a' b' => fnB f f' && avsB a a' && avsB b b'
  | .nilFunc, .nilFunc => true
  | .iface t a, .iface t' b => decide (t = t') && avB a b
  | .nilIface, .nilIface => true
  | .agg a, .agg b => avsB a b
  | .tuple a, .tuple b => avsB a b
  | _, _ => false
def avsB : List AV → List AV → Bool
  | [], [] => true
  | a :: as, b :: bs => avB a b && avsB as bs
  | _, _ => false
end
mutual
theorem avB_eq : ∀ (a b : AV), avB a b = true → a = b
  | .any, b, h => by cases b <;> simp [avB] at h; rfl
  | .bool x, b, h => by cases b <;> simp [avB] at h; subst h; rfl
  | .int k x, b, h => by cases b <;> simp [avB] at h; obtain ⟨h1, h2⟩ := h; subst h1 h2; rfl
  | .str x, b, h => by cases b <;> simp [avB] at h; subst h; rfl
  | .nilptr, b, h => by cases b <;> simp [avB] at h; rfl
  | .ptr l o, b, h => by cases b <;> simp [avB] at h; obtain ⟨h1, h2⟩ := h; subst h1 h2; rfl
  | .iptr x, b, h => by cases b <;> simp [avB] at h; rw [avsB_eq _ _ h]
  | .slice n s es t, b, h => by
    cases b <;> simp [avB] at h
    obtain ⟨⟨⟨h1, h2⟩, h3⟩, h4⟩ := h
    subst h1 h2; rw [tokB_eq h3, avsB_eq _ _ h4]
  | .nilmap, b, h => by cases b <;> simp [avB] at h; rfl
  | .map l, b, h => by cases b <;> simp [avB] at h; subst h; rfl
  | .func f x y, b, h => by
    cases b <;> simp [avB] at h
    obtain ⟨⟨h1, h2⟩, h3⟩ := h
    rw [fnB_eq h1, avsB_eq _ _ h2, avsB_eq _ _ h3]
  | .nilFunc, b, h => by cases b <;> simp [avB] at h; rfl
  | .iface t x, b, h => by cases b <;> simp [avB] at h; obtain ⟨h1, h2⟩ := h; subst h1; rw [avB_eq _ _ h2]
  | .nilIface, b, h => by cases b <;> simp [avB] at h; rfl
  | .agg x, b, h => by cases b <;> simp [avB] at h; rw [avsB_eq _ _ h]
  | .tuple x, b, h => by cases b <;> simp [avB] at h; rw [avsB_eq _ _ h]
theorem avsB_eq : ∀ (a b : List AV), avsB a b = true → a = b
  | [], b, h => by cases b <;> simp [avsB] at h; rfl
  | x :: xs, b, h => by
    cases b with
    | nil => simp [avsB] at h
    | cons y ys => simp only [avsB, Bool.and_eq_true] at h; rw [avB_eq _ _ h.1, avsB_eq _ _ h.2]
end

mutual
def joinV : AV → AV → AV
  | .slice n s es t, .slice n' s' es' t' => if n = n' ∧ s = s' ∧ es.length = es'.length then .slice n s (joinVs es es') (if tokB t t' = true then t else .unk) else .any
  | .iptr a, .iptr b => if a.length = b.length then .iptr (joinVs a b) else .any
  | .agg a, .agg b => if a.length = b.length then .agg (joinVs a b) else .any
  | .tuple a, .tuple b => if a.length = b.length then .tuple (joinVs a b) else .any
  | a, b => if avB a b = true then a else .any
def joinVs : List AV → List AV → List AV
  | a :: as, b :: bs => joinV a b :: joinVs as bs
  | _, _ => []
end

theorem joinVs_len : ∀ {a b : List AV}, a.length = b.length → (joinVs a b).length = a.length
  | [], [], _ => rfl
  | _ :: as, _ :: bs, h => by simp only [joinVs, List.length_cons]; rw [joinVs_len (by simpa using h)]
  | [], _ :: _, h => by simp at h
  | _ :: _, [], h => by simp at h

theorem TokR.unk {G : Ghost} {t : Tok} {base : Option Addr} {sz len cap : Nat} (h : TokR G t base sz len cap) : TokR G .unk base sz len cap := by
  cases t with
  | full => simp only [TokR] at *; omega
  | opn t g => exact h.1
  | unk => exact h

section
variable {G : Ghost}
mutual
theorem join_l : ∀ (a b : AV) (v : Value), VR G a v → VR G (joinV a b) v
  | .slice n s es t, b, v, h => by
    cases b <;> simp only [joinV] <;> try (simp only [avB]; simp [VR]; done)
    rename_i n' s' es' t'
    split
    · rename_i hc
      simp only [VR] at h ⊢
      obtain ⟨base, cap, cs, h1, h2, h3, h4, h5⟩ := h
      rw [joinVs_len hc.2.2]
      refine ⟨base, cap, cs, h1, h2, ?_, join_lf es es' s cs hc.2.2 h4, h5⟩
      split
      · exact h3
      · exact h3.unk
    · simp [VR]
  | .iptr x, b, v, h => by
    cases b <;> simp only [joinV] <;> try (simp only [avB]; simp [VR]; done)
    split
    · rename_i hc
      simp only [VR] at h ⊢
      obtain ⟨b', o, vs, h1, h2, h3⟩ := h
      exact ⟨b', o, vs, h1, join_ls x _ vs hc h2, h3⟩
    · simp [VR]
  | .agg x, b, v, h => by
    cases b <;> simp only [joinV] <;> try (simp only [avB]; simp [VR]; done)
    split
    · rename_i hc
      simp only [VR] at h ⊢
      obtain ⟨vs, h1, h2, h3⟩ := h
      exact ⟨vs, h1, join_ls x _ vs hc h2, h3⟩
    · simp [VR]
  | .tuple x, b, v, h => by
    cases b <;> simp only [joinV] <;> try (simp only [avB]; simp [VR]; done)
    split
    · rename_i hc
      simp only [VR] at h ⊢
      obtain ⟨vs, h1, h2⟩ := h
      exact ⟨vs, h1, join_ls x _ vs hc h2⟩
    · simp [VR]
  | .any, b, v, h => by simp only [joinV]; split <;> first | exact h | simp [VR]
  | .bool x, b, v, h => by simp only [joinV]; split <;> first | exact h | simp [VR]
  | .int _ _, b, v, h => by simp only [joinV]; split <;> first | exact h | simp [VR]
  | .str _, b, v, h => by simp only [joinV]; split <;> first | exact h | simp [VR]
  | .nilptr, b, v, h => by simp only [joinV]; split <;> first | exact h | simp [VR]
  | .ptr _ _, b, v, h => by simp only [joinV]; split <;> first | exact h | simp [VR]
  | .nilmap, b, v, h => by simp only [joinV]; split <;> first | exact h | simp [VR]
  | .map _, b, v, h => by simp only [joinV]; split <;> first | exact h | simp [VR]
  | .func _ _ _, b, v, h => by simp only [joinV]; split <;> first | exact h | simp [VR]
  | .nilFunc, b, v, h => by simp only [joinV]; split <;> first | exact h | simp [VR]
  | .iface _ _, b, v, h => by simp only [joinV]; split <;> first | exact h | simp [VR]
  | .nilIface, b, v, h => by simp only [joinV]; split <;> first | exact h | simp [VR]
theorem join_ls : ∀ (a b : List AV) (vs : List Value), a.length = b.length → VRs G a vs → VRs G (joinVs a b) vs
  | [], [], vs, _, h => by simpa [joinVs] using h
  | x :: xs, y :: ys, vs, hl, h => by
    obtain ⟨v, vs', rfl, h1, h2⟩ := h.cons_inv
    exact VRs.cons (join_l x y v h1) (join_ls xs ys vs' (by simpa using hl) h2)
  | [], _ :: _, _, hl, _ => by simp at hl
  | _ :: _, [], _, hl, _ => by simp at hl
theorem join_lf : ∀ (a b : List AV) (sz : Nat) (cs : List Value), a.length = b.length → VRf G sz a cs → VRf G sz (joinVs a b) cs
  | [], [], sz, cs, _, h => by simpa [joinVs] using h
  | x :: xs, y :: ys, sz, cs, hl, h => by
    simp only [VRf] at h
    obtain ⟨v, cs', h1, h2, h3, h4⟩ := h
    simp only [joinVs, VRf]
    exact ⟨v, cs', join_l x y v h1, h2, h3, join_lf xs ys sz cs' (by simpa using hl) h4⟩
  | [], _ :: _, _, _, hl, _ => by simp at hl
  | _ :: _, [], _, _, hl, _ => by simp at hl
end
mutual
theorem join_r : ∀ (a b : AV) (v : Value), VR G b v → VR G (joinV a b) v
  | .slice n s es t, b, v, h => by
    cases b <;> simp only [joinV] <;> try (simp only [avB]; simp [VR]; done)
    rename_i n' s' es' t'
    split
    · rename_i hc
      obtain ⟨rfl, rfl, hc⟩ := hc
      simp only [VR] at h ⊢
      obtain ⟨base, cap, cs, h1, h2, h3, h4, h5⟩ := h
      rw [joinVs_len hc, hc]
      refine ⟨base, cap, cs, h1, h2, ?_, join_rf es es' s cs hc h4, h5⟩
      split
      · rename_i ht; rw [tokB_eq ht]; exact h3
      · exact h3.unk
    · simp [VR]
  | .iptr x, b, v, h => by
    cases b <;> simp only [joinV] <;> try (simp only [avB]; simp [VR]; done)
    split
    · rename_i hc
      simp only [VR] at h ⊢
      obtain ⟨b', o, vs, h1, h2, h3⟩ := h
      exact ⟨b', o, vs, h1, join_rs x _ vs hc h2, h3⟩
    · simp [VR]
  | .agg x, b, v, h => by
    cases b <;> simp only [joinV] <;> try (simp only [avB]; simp [VR]; done)
    split
    · rename_i hc
      simp only [VR] at h ⊢
      obtain ⟨vs, h1, h2, h3⟩ := h
      exact ⟨vs, h1, join_rs x _ vs hc h2, h3⟩
    · simp [VR]
  | .tuple x, b, v, h => by
    cases b <;> simp only [joinV] <;> try (simp only [avB]; simp [VR]; done)
    split
    · rename_i hc
      simp only [VR] at h ⊢
      obtain ⟨vs, h1, h2⟩ := h
      exact ⟨vs, h1, join_rs x _ vs hc h2⟩
    · simp [VR]
  | .any, b, v, h => by simp only [joinV]; split <;> first | (rename_i hh; rw [avB_eq _ _ hh]; exact h) | simp [VR]
  | .bool x, b, v, h => by simp only [joinV]; split <;> first | (rename_i hh; rw [avB_eq _ _ hh]; exact h) | simp [VR]
  | .int _ _, b, v, h => by simp only [joinV]; split <;> first | (rename_i hh; rw [avB_eq _ _ hh]; exact h) | simp [VR]
  | .str _, b, v, h => by simp only [joinV]; split <;> first | (rename_i hh; rw [avB_eq _ _ hh]; exact h) | simp [VR]
  | .nilptr, b, v, h => by simp only [joinV]; split <;> first | (rename_i hh; rw [avB_eq _ _ hh]; exact h) | simp [VR]
  | .ptr _ _, b, v, h => by simp only [joinV]; split <;> first | (rename_i hh; rw [avB_eq _ _ hh]; exact h) | simp [VR]
  | .nilmap, b, v, h => by simp only [joinV]; split <;> first | (rename_i hh; rw [avB_eq _ _ hh]; exact h) | simp [VR]
  | .map _, b, v, h => by simp only [joinV]; split <;> first | (rename_i hh; rw [avB_eq _ _ hh]; exact h) | simp [VR]
  | .func _ _ _, b, v, h => by simp only [joinV]; split <;> first | (rename_i hh; rw [avB_eq _ _ hh]; exact h) | simp [VR]
  | .nilFunc, b, v, h => by simp only [joinV]; split <;> first | (rename_i hh; rw [avB_eq _ _ hh]; exact h) | simp [VR]
  | .iface _ _, b, v, h => by simp only [joinV]; split <;> first | (rename_i hh; rw [avB_eq _ _ hh]; exact h) | simp [VR]
  | .nilIface, b, v, h => by simp only [joinV]; split <;> first | (rename_i hh; rw [avB_eq _ _ hh]; exact h) | simp [VR]
theorem join_rs : ∀ (a b : List AV) (vs : List Value), a.length = b.length → VRs G b vs → VRs G (joinVs a b) vs
  | [], [], vs, _, h => by simpa [joinVs] using h
  | x :: xs, y :: ys, vs, hl, h => by
    obtain ⟨v, vs', rfl, h1, h2⟩ := h.cons_inv
    exact VRs.cons (join_r x y v h1) (join_rs xs ys vs' (by simpa using hl) h2)
  | [], _ :: _, _, hl, _ => by simp at hl
  | _ :: _, [], _, hl, _ => by simp at hl
theorem join_rf : ∀ (a b : List AV) (sz : Nat) (cs : List Value), a.length = b.length → VRf G sz b cs → VRf G sz (joinVs a b) cs
  | [], [], sz, cs, _, h => by simpa [joinVs] using h
  | x :: xs, y :: ys, sz, cs, hl, h => by
    simp only [VRf] at h
    obtain ⟨v, cs', h1, h2, h3, h4⟩ := h
    simp only [joinVs, VRf]
    exact ⟨v, cs', join_r x y v h1, h2, h3, join_rf xs ys sz cs' (by simpa using hl) h4⟩
  | [], _ :: _, _, _, hl, _ => by simp at hl
  | _ :: _, [], _, _, hl, _ => by simp at hl
end
end

def entB : List (AV × AV) → List (AV × AV) → Bool
  | [], [] => true
  | (a, b) :: es, (c, d) :: fs => avB a c && avB b d && entB es fs
  | _, _ => false
theorem entB_eq : ∀ {a b : List (AV × AV)}, entB a b = true → a = b
  | [], [], _ => rfl
  | (a, b) :: es, (c, d) :: fs, h => by
    simp only [entB, Bool.and_eq_true] at h
    rw [avB_eq _ _ h.1.1, avB_eq _ _ h.1.2, entB_eq h.2]
  | [], _ :: _, h => by simp [entB] at h
  | _ :: _, [], h => by simp [entB] at h
def objB : AObj → AObj → Bool
  | .cells a, .cells b => avsB a b
  | .spare g, .spare g' => g == g'
  | .map es st, .map es' st' => entB es es' && st.bs == st'.bs && st.clk == st'.clk
  | .iter s p, .iter s' p' => s == s' && p == p'
  | .miter m a b c, .miter m' a' b' c' => m == m' && a == a' && b == b' && c == c'
  | _, _ => false
theorem objB_eq {a b : AObj} (h : objB a b = true) : a = b := by
  cases a <;> cases b <;> simp [objB] at h
  · rw [avsB_eq _ _ h]
  · rw [h]
  · rename_i es st es' st'
    obtain ⟨⟨h1, h2⟩, h3⟩ := h
    obtain ⟨b1, c1⟩ := st; obtain ⟨b2, c2⟩ := st'
    simp only at h2 h3
    rw [entB_eq h1, h2, h3]
  · obtain ⟨h1, h2⟩ := h; rw [h1, h2]
  · obtain ⟨⟨⟨h1, h2⟩, h3⟩, h4⟩ := h; rw [h1, h2, h3, h4]

def joinO : Option AObj → Option AObj → Option AObj
  | some a, some b => if objB a b = true then some a else none
  | _, _ => none
def Tr.join : Tr → Tr → Tr
  | .node l v r, .node l' v' r' => .node (l.join l') (joinO v v') (r.join r')
  | _, _ => .nil
theorem joinO_le {a b : Option AObj} {x : AObj} (h : joinO a b = some x) : a = some x ∧ b = some x := by
  unfold joinO at h
  split at h
  · split at h
    · rename_i hh; have := objB_eq hh; subst this; exact ⟨h, h⟩
    · cases h
  · cases h
theorem Tr.join_le : ∀ {a b : Tr} {k : Nat} {x : AObj}, (a.join b).get k = some x → a.get k = some x ∧ b.get k = some x
  | .nil, b, k, x, h => by cases b <;> simp [Tr.join, Tr.get] at h
  | .node _ _ _, .nil, k, x, h => by simp [Tr.join, Tr.get] at h
  | .node l v r, .node l' v' r', k, x, h => by
    cases k with
    | zero => simp only [Tr.join, Tr.get] at h ⊢; exact joinO_le h
    | succ k =>
      simp only [Tr.join, Tr.get] at h ⊢
      split at h
      · rename_i hk; rw [if_pos hk, if_pos hk]; exact Tr.join_le h
      · rename_i hk; rw [if_neg hk, if_neg hk]; exact Tr.join_le h

def DS.join (a b : DS) : DS := ⟨a.t.join b.t, a.n⟩
theorem DS.join_le (γ : Ctx) {a b : DS} (h : a.n = b.n) : SubD γ (a.join b).as a.as ∧ SubD γ (a.join b).as b.as := by
  have key : ∀ l x, (a.join b).at l = some x → a.at l = some x ∧ b.at l = some x := fun l x hx => by
    unfold DS.at at *
    change (if l < a.n then (a.t.join b.t).get l else none) = some x at hx
    split at hx
    · rename_i hl
      rw [if_pos hl, if_pos (h ▸ hl)]
      exact Tr.join_le hx
    · cases hx
  exact ⟨⟨fun l x hx => (key l x hx).1, fun _ => Nat.le_refl _⟩, ⟨fun l x hx => (key l x hx).2, fun _ => Nat.le_of_eq h.symm⟩⟩

/-- Of two ends that are of one kind, what they have in common. -/
def joinE : AEnd × DS → AEnd × DS → Option (AEnd × DS)
  | (.ret a, s), (.ret b, s') => if s.n = s'.n then some (.ret (joinV a b), s.join s') else none
  | _, _ => none
def addE (x : AEnd × DS) : List (AEnd × DS) → List (AEnd × DS)
  | [] => [x]
  | y :: ys => match joinE y x with
    | some z => z :: ys
    | none => y :: addE x ys
def mergeE : List (AEnd × DS) → List (AEnd × DS)
  | [] => []
  | x :: xs => addE x (mergeE xs)

/-- One end knows less. -/
def EndLe (γ : Ctx) (x y : AEnd × DS) : Prop := (∀ G e, ER G x.1 e → ER G y.1 e) ∧ SubD γ y.2.as x.2.as
theorem EndLe.refl (γ : Ctx) (x : AEnd × DS) : EndLe γ x x := ⟨fun _ _ h => h, SubD.refl γ _⟩
theorem EndLe.trans {γ : Ctx} {x y z : AEnd × DS} (h : EndLe γ x y) (k : EndLe γ y z) : EndLe γ x z :=
  ⟨fun G e he => k.1 G e (h.1 G e he), fun l o hl => h.2.1 l o (k.2.1 l o hl), fun hd => Nat.le_trans (h.2.2 hd) (k.2.2 hd)⟩
theorem joinE_le {γ : Ctx} {x y z : AEnd × DS} (h : joinE x y = some z) : EndLe γ x z ∧ EndLe γ y z := by
  unfold joinE at h
  split at h
  · rename_i a s b s'
    split at h
    · rename_i hn
      simp only [Option.some.injEq] at h; subst h
      obtain ⟨h1, h2⟩ := DS.join_le γ hn
      exact ⟨⟨fun G e ⟨v, h3, h4⟩ => ⟨v, h3, join_l a b v h4⟩, h1⟩, ⟨fun G e ⟨v, h3, h4⟩ => ⟨v, h3, join_r a b v h4⟩, h2⟩⟩
    · cases h
  · cases h
theorem addE_le {γ : Ctx} {x : AEnd × DS} : ∀ {l : List (AEnd × DS)}, (∃ y ∈ addE x l, EndLe γ x y) ∧ ∀ z ∈ l, ∃ y ∈ addE x l, EndLe γ z y
  | [] => ⟨⟨x, by simp [addE], .refl γ x⟩, fun z hz => by simp at hz⟩
  | w :: ws => by
    simp only [addE]
    split
    · rename_i z hz
      obtain ⟨h1, h2⟩ := joinE_le (γ := γ) hz
      refine ⟨⟨z, by simp, h2⟩, fun u hu => ?_⟩
      rcases List.mem_cons.1 hu with rfl | hu
      · exact ⟨z, by simp, h1⟩
      · exact ⟨u, by simp [hu], .refl γ u⟩
    · obtain ⟨⟨y, h1, h2⟩, h3⟩ := addE_le (γ := γ) (x := x) (l := ws)
      refine ⟨⟨y, by simp [h1], h2⟩, fun u hu => ?_⟩
      rcases List.mem_cons.1 hu with rfl | hu
      · exact ⟨u, by simp, .refl γ u⟩
      · obtain ⟨y, h4, h5⟩ := h3 u hu; exact ⟨y, by simp [h4], h5⟩
theorem mergeE_le {γ : Ctx} : ∀ {l : List (AEnd × DS)} {x : AEnd × DS}, x ∈ l → ∃ y ∈ mergeE l, EndLe γ x y
  | x :: xs, z, h => by
    simp only [mergeE]
    obtain ⟨h1, h2⟩ := addE_le (γ := γ) (x := x) (l := mergeE xs)
    rcases List.mem_cons.1 h with rfl | h
    · exact h1
    · obtain ⟨y, h3, h4⟩ := mergeE_le (γ := γ) h
      obtain ⟨u, h5, h6⟩ := h2 y h3
      exact ⟨u, h5, h4.trans h6⟩

/-- How a call is evaluated: all the ways in which it may end. -/
abbrev BCall := FuncId → List AV → DS → Option (List (AEnd × DS))

def catE {α β : Type} (f : α → Option (List β)) : List α → Option (List β)
  | [] => some []
  | x :: xs => match f x, catE f xs with
    | some a, some b => some (a ++ b)
    | _, _ => none
theorem catE_mem {α β : Type} {f : α → Option (List β)} : ∀ {l : List α} {r : List β}, catE f l = some r → ∀ x ∈ l, ∃ a, f x = some a ∧ ∀ y ∈ a, y ∈ r
  | [], r, h, x, hx => by simp at hx
  | z :: zs, r, h, x, hx => by
    simp only [catE] at h
    split at h
    · rename_i a b h1 h2
      simp only [Option.some.injEq] at h; subst h
      rcases List.mem_cons.1 hx with rfl | hx
      · exact ⟨a, h1, fun y hy => List.mem_append_left _ hy⟩
      · obtain ⟨c, h3, h4⟩ := catE_mem h2 x hx
        exact ⟨c, h3, fun y hy => List.mem_append_right _ (h4 y hy)⟩
    · cases h

def one {α : Type} (x : α) : Option (List α) := some [x]

def bOp (call : BCall) (ev : XO → AV) (s : DS) : IOp → Option (List (AEnd × DS))
  | .p q => match pop ev q with
    | some v => one (.ret v, s)
    | none => none
  | .alloc zs => one (.ret (.ptr s.n 0), s.new (.cells zs))
  | .box x => if (ev x).known = true then one (.ret (.ptr s.n 0), s.new (.cells (ev x).cells)) else none
  | .mkmap => one (.ret (.map s.n), s.new (.map [] .nil))
  | .rng x => match ev x with
    | .str t => one (.ret (.ptr s.n 0), s.new (.iter t 0))
    | _ => none
  | .ment pl z m k => if fitP pl (ev k) = true then match ev m with
    | .map l => match s.at l with
      | some (.map es st) => match mentA pl z es st (ev k) with
        | some r => one (.ret (.tuple [r.1, r.2.1]), s.put l (some (.map r.2.2.1 r.2.2.2)))
        | none => none
      | _ => none
    | _ => none
    else none
  | .mrng m => match ev m with
    | .map l => match s.at l with
      | some (.map _ st) => one (.ret (.ptr s.n 0), s.new (.miter (some l) st.clk [] st.clk))
      | _ => none
    | .nilmap => one (.ret (.ptr s.n 0), s.new (.miter none 0 [] 0))
    | _ => none
  | .mnxt x => match ev x with
    | .ptr it 0 => match s.at it with
      | some (.miter none _ _ _) => one (.ret (.tuple [.bool false]), s)
      | some (.miter (some l) since seen last) => match s.at l with
        | some (.map es st) => if since = st.clk ∧ last = st.clk ∧ st.bs.all (fun b => Nat.blt b st.clk) = true then
            some ((if st.bs.all seen.contains = true then [(.ret (.tuple [.bool false]), s)] else []) ++
              (List.range es.length).flatMap fun i => match st.bs[i]?, es[i]? with
                | some b, some e => if seen.contains b = true then [] else [(.ret (.tuple [.bool true, e.1, e.2]), s.put it (some (.miter (some l) since (seen ++ [b]) st.clk)))]
                | _, _ => [])
          else none
        | _ => none
      | _ => none
    | _ => none
  | .storef t n v => match ev (.tmp t) with
    | .ptr l 0 => match s.at l with
      | some (.cells cs) => if (ev v).known = true ∧ (ev v).cells.length = n ∧ cs.length = n then one (.ret (.iptr (ev v).cells), s.put l none) else none
      | _ => none
    | _ => none
  | .append sz bytes x y => match ev x with
    | .slice nl sz' es tok => match srcA sz (ev y) with
      | some ys => if (es.length + ys.length) * bytes ≤ roomMax then match tok with
        | .opn t g => if sz' = sz then match s.at t with
          | some (.spare g') => if g' = g then one (.ret (.slice (nl && ys.isEmpty) sz (es ++ ys) (.opn t (g + 1))), s.put t (some (.spare (g + 1)))) else none
          | _ => none
          else none
        | .full => if sz' = sz ∨ es.isEmpty = true then one (.ret (.slice (nl && ys.isEmpty) sz (es ++ ys) (.opn s.n 1)), s.new (.spare 1)) else none
        | .unk => none
        else none
      | none => none
    | _ => none
  | .call f args => call f (args.map ev) s
  | .callv x args => match ev x with
    | .func (.func f) first cap => call f (first ++ args.map ev ++ cap) s
    | _ => none
  | .panic x => match ev x with
    | .iface t v => one (.pan (.iface t v), s)
    | _ => none
  | .defer _ _ => none
  | o => match stD ev s o with
    | some r => one (.ret r.1, r.2)
    | none => none

/-- A call's evaluation is right. -/
def BOK (P : Program) (γ : Ctx) (call : BCall) : Prop :=
  ∀ f args s l, call f args s = some l → ∀ R : AEnd → AS → Prop, (∀ x ∈ l, R x.1 x.2.as) → ACall P γ f args s.as R

section
variable {P : Program} {γ : Ctx} {call : BCall}

theorem bOp_ok (hd : γ.det = true) (hcall : BOK P γ call) {ev : XO → AV} {s : DS} {o : IOp} (hn : s.n < DS.max) {l : List (AEnd × DS)} (h : bOp call ev s o = some l)
    {K Kp : AV → AS → Prop} (hK : ∀ v s', (.ret v, s') ∈ l → K v s'.as) (hKp : ∀ v s', (.pan v, s') ∈ l → Kp v s'.as) : AOp P γ ev s.as K Kp o := by
  have nwe : ∀ {l : Nat}, Nw γ s.as l → l = s.n := fun hl => hl.2 hd
  have h1 : ∀ {v : AV} {s' : DS}, one (AEnd.ret v, s') = some l → K v s'.as := fun hh => hK _ _ (by simp only [one, Option.some.injEq] at hh; rw [← hh]; simp)
  cases o
  case p q =>
    simp only [bOp] at h
    simp only [AOp]
    split at h
    · rename_i v hv; rw [hv]; exact h1 h
    · cases h
  case alloc zs =>
    simp only [bOp] at h
    simp only [AOp]
    intro l hl
    have := nwe hl; subst this
    rw [← DS.as_new hn]; exact h1 h
  case box x =>
    simp only [bOp] at h
    simp only [AOp]
    split at h
    · rename_i hk
      refine ⟨hk, fun l hl => ?_⟩
      have := nwe hl; subst this
      rw [← DS.as_new hn]; exact h1 h
    · cases h
  case mkmap =>
    simp only [bOp] at h
    simp only [AOp]
    intro l hl
    have := nwe hl; subst this
    rw [← DS.as_new hn]; exact h1 h
  case rng x =>
    simp only [bOp] at h
    simp only [AOp]
    split at h
    · rename_i t ht
      rw [ht]; simp only
      intro l hl
      have := nwe hl; subst this
      rw [← DS.as_new hn]; exact h1 h
    · cases h
  case ment pl z m k =>
    simp only [bOp] at h
    simp only [AOp]
    split at h
    · rename_i hf
      refine ⟨hf, ?_⟩
      split at h
      · rename_i l hl
        split at h
        · rename_i es st hs
          split at h
          · rename_i r hr
            rw [hl]; simp only [DS.as_at, hs, hr, Opt]
            rw [← DS.as_put hn (DS.lt hs)]; exact h1 h
          · cases h
        · cases h
      · cases h
    · cases h
  case mrng m =>
    simp only [bOp] at h
    simp only [AOp]
    split at h
    · rename_i l hl
      split at h
      · rename_i es st hs
        rw [hl]; simp only [DS.as_at, hs]
        intro it hit
        have := nwe hit; subst this
        rw [← DS.as_new hn]; exact h1 h
      · cases h
    · rename_i hl
      rw [hl]; simp only
      intro it hit
      have := nwe hit; subst this
      rw [← DS.as_new hn]; exact h1 h
    · cases h
  case mnxt x =>
    simp only [bOp] at h
    simp only [AOp]
    split at h
    · rename_i it hit
      rw [hit]; simp only [DS.as_at]
      split at h
      · rename_i hs
        rw [hs]; exact h1 h
      · rename_i l since seen last hs
        split at h
        · rename_i es st hm
          rw [hs]; simp only [hm]
          split at h
          · rename_i hc
            obtain ⟨c1, c2, c3⟩ := hc
            simp only [Option.some.injEq] at h; subst h
            rw [List.all_eq_true] at c3
            refine ⟨c1, c2, fun b hb => by simpa using c3 b hb, fun hall => hK _ _ ?_, fun i b e hb hns he => ?_⟩
            · apply List.mem_append_left
              rw [if_pos (by rw [List.all_eq_true]; intro b hb; simpa using hall b hb)]
              simp
            · rw [← DS.as_put hn (DS.lt hs)]
              refine hK _ _ (List.mem_append_right _ (List.mem_flatMap.2 ⟨i, List.mem_range.2 (List.getElem?_eq_some_iff.1 he).1, ?_⟩))
              simp only [hb, he]
              rw [if_neg (by simpa using hns)]
              simp
          · cases h
        · cases h
      · cases h
    · cases h
  case storef t n v =>
    simp only [bOp] at h
    simp only [AOp]
    split at h
    · rename_i l hl
      split at h
      · rename_i cs hs
        split at h
        · rename_i hc
          rw [hl]; simp only [DS.as_at, hs]
          refine ⟨hc.1, hc.2.1, hc.2.2, ?_⟩
          rw [← DS.as_del hn (DS.lt hs)]; exact h1 h
        · cases h
      · cases h
    · cases h
  case append sz bytes x y =>
    simp only [bOp] at h
    simp only [AOp]
    split at h
    · rename_i nl sz' es tok he
      split at h
      · rename_i ys hys
        rw [he]; simp only [hys, Opt]
        split at h
        · rename_i hroom
          cases tok with
          | unk => cases h
          | full =>
            simp only at h
            split at h
            · rename_i hc
              simp only [List.isEmpty_iff] at hc
              refine ⟨hc.imp id fun h => ⟨h, rfl⟩, hroom, fun t ht => ?_⟩
              have := nwe ht; subst this
              rw [← DS.as_new hn]; exact h1 h
            · cases h
          | opn t g =>
            simp only at h
            split at h
            · rename_i hsz
              split at h
              · rename_i g' hs
                split at h
                · rename_i hg
                  subst hg
                  refine ⟨.inl hsz, hroom, hs, ?_⟩
                  rw [← DS.as_put hn (DS.lt hs)]; exact h1 h
                · cases h
              · cases h
            · cases h
        · cases h
      · cases h
    · cases h
  case call f args =>
    simp only [bOp] at h
    simp only [AOp]
    refine hcall _ _ _ _ h _ fun x hx => ?_
    obtain ⟨r, s'⟩ := x
    cases r with
    | ret v => exact hK _ _ hx
    | pan v => exact hKp _ _ hx
  case callv x args =>
    simp only [bOp] at h
    simp only [AOp]
    split at h
    · rename_i f first cap hx
      rw [hx]
      refine hcall _ _ _ _ h _ fun x hx => ?_
      obtain ⟨r, s'⟩ := x
      cases r with
      | ret v => exact hK _ _ hx
      | pan v => exact hKp _ _ hx
    · cases h
  case panic x =>
    simp only [bOp] at h
    simp only [AOp]
    split at h
    · rename_i t v hx; rw [hx]
      exact hKp _ _ (by simp only [one, Option.some.injEq] at h; rw [← h]; simp)
    · cases h
  case defer x args => simp [bOp] at h
  all_goals
    simp only [bOp] at h
    simp only [AOp]
    split at h
    · rename_i r hr
      obtain ⟨v, s'⟩ := r
      rw [stD_ok hn hr]
      exact h1 h
    · cases h

/-! ### code -/

abbrev Out := AX × Env × DS

def bRT (γ : Ctx) (call : BCall) (fz : List Nat) : RT → Env → DS → Option (List Out)
  | .done, e, s => one (.normal, e, s)
  | .op i k, e, s =>
    let skip := fun (_ : Unit) => bRT γ call fz k (e.put i.dst undefA) s
    let run := fun (_ : Unit) => if Nat.blt s.n DS.max = true then match i.op with
      | .defer x args => match XO.ev γ e.t x with
        | .func (.func f) first cap => bRT γ call fz k ({ e with d := (f, first ++ args.map (XO.ev γ e.t) ++ cap) :: e.d }.put i.dst undefA) s
        | _ => none
      | o => match bOp call (XO.ev γ e.t) s o with
        | some l => catE (fun x => match x.1 with
          | .ret v => bRT γ call fz k (e.put i.dst v) x.2
          | .pan v => one (.pan v, { e with t := only fz 0 e.t }, x.2)) l
        | none => none
      else none
    match i.gd with
    | none => run ()
    | some (g, want) => match e.t.getD g undefA with
      | .bool b => if b = want then run () else skip ()
      | .tuple [] => skip ()
      | _ => none
  | .br l r, e, s => match bRT γ call fz l e s, bRT γ call fz r e s with
    | some a, some b => some (a ++ b)
    | _, _ => none

theorem bRT_ok (hd : γ.det = true) (hcall : BOK P γ call) {fz : List Nat} {Q : AX → Env → AS → Prop} :
    ∀ {t : RT} {e : Env} {s : DS} {l : List Out}, bRT γ call fz t e s = some l → (∀ x ∈ l, Q x.1 x.2.1 x.2.2.as) → ART P γ fz Q t e s.as
  | .done, e, s, l, h, hQ => hQ (.normal, e, s) (by simp only [bRT, one, Option.some.injEq] at h; rw [← h]; simp)
  | .br t u, e, s, l, h, hQ => by
    simp only [bRT] at h
    split at h
    · rename_i a b h1 h2
      simp only [Option.some.injEq] at h; subst h
      exact ⟨bRT_ok hd hcall h1 (fun x hx => hQ x (List.mem_append_left _ hx)), bRT_ok hd hcall h2 (fun x hx => hQ x (List.mem_append_right _ hx))⟩
    · cases h
  | .op i k, e, s, l, h, hQ => by
    simp only [bRT] at h
    simp only [ART, AI]
    have hrun : (if Nat.blt s.n DS.max = true then match i.op with
      | .defer x args => match XO.ev γ e.t x with
        | .func (.func f) first cap => bRT γ call fz k (({ e with d := (f, first ++ args.map (XO.ev γ e.t) ++ cap) :: e.d } : Env).put i.dst undefA) s
        | _ => none
      | o => match bOp call (XO.ev γ e.t) s o with
        | some l => catE (fun x => match x.1 with
          | .ret v => bRT γ call fz k (e.put i.dst v) x.2
          | .pan v => one (.pan v, { e with t := only fz 0 e.t }, x.2)) l
        | none => none
      else none) = some l →
      (match i.op with
      | .defer x args => match XO.ev γ e.t x with
        | .func (.func f) first cap => ART P γ fz Q k (({ e with d := (f, first ++ args.map (XO.ev γ e.t) ++ cap) :: e.d } : Env).put i.dst undefA) s.as
        | _ => False
      | o => AOp P γ (XO.ev γ e.t) s.as (fun v σ' => ART P γ fz Q k (e.put i.dst v) σ') (fun v σ' => Q (.pan v) { e with t := only fz 0 e.t } σ') o) := fun hr => by
      split at hr
      · rename_i hn
        rw [Nat.blt_eq] at hn
        split at hr
        · rename_i x args hop
          split at hr
          · exact bRT_ok hd hcall hr hQ
          · cases hr
        · rename_i hop
          split at hr
          · rename_i l' hl'
            refine bOp_ok hd hcall hn hl' (fun v s' hv => ?_) (fun v s' hv => ?_)
            · obtain ⟨a, h1, h2⟩ := catE_mem hr _ hv
              exact bRT_ok hd hcall h1 (fun x hx => hQ x (h2 x hx))
            · obtain ⟨a, h1, h2⟩ := catE_mem hr _ hv
              simp only [one, Option.some.injEq] at h1
              exact hQ (.pan v, { e with t := only fz 0 e.t }, s') (h2 _ (by rw [← h1]; simp))
          · cases hr
      · cases hr
    split at h
    · rename_i hg; rw [hg]; exact hrun h
    · rename_i g want hg; rw [hg]; simp only
      split at h
      · rename_i b hv; rw [hv]; simp only
        split at h
        · rename_i hb; rw [if_pos hb]; exact hrun h
        · rename_i hb; rw [if_neg hb]; exact bRT_ok hd hcall h hQ
      · rename_i hv; rw [hv]; exact bRT_ok hd hcall h hQ
      · cases h

/-- So many rounds at most. -/
def bLoop (b : Env → DS → Option (List Out)) : Nat → Env → DS → Option (List Out)
  | 0, _, _ => none
  | n + 1, e, s => match b e s with
    | some l => catE (fun x => match x.1 with
      | .normal => bLoop b n x.2.1 x.2.2
      | y => one (y, x.2)) l
    | none => none

def bIC (γ : Ctx) (call : BCall) (lf : Nat) : IC → Env → DS → Option (List Out)
  | .skip, e, s => one (.normal, e, s)
  | .ops fz t, e, s => bRT γ call fz t e s
  | .seq a b, e, s => match bIC γ call lf a e s with
    | some l => catE (fun x => match x.1 with
      | .normal => bIC γ call lf b x.2.1 x.2.2
      | y => one (y, x.2)) l
    | none => none
  | .cond c a b, e, s => match XO.ev γ e.t c with
    | .bool t => if t then bIC γ call lf a e s else bIC γ call lf b e s
    | _ => none
  | .block id b, e, s => match bIC γ call lf b e s with
    | some l => some (l.map fun x => match x.1 with
      | .exit j => (if j = id then .normal else .exit j, x.2)
      | y => (y, x.2))
    | none => none
  | .loop b, e, s => bLoop (bIC γ call lf b) lf e s
  | .exit id, e, s => one (.exit id, e, s)
  | .ret, e, s => one (.ret, e, s)

theorem bIC_ok (hd : γ.det = true) (hcall : BOK P γ call) {lf : Nat} : ∀ {c : IC} {e : Env} {s : DS} {l : List Out} {Q : AX → Env → AS → Prop}, bIC γ call lf c e s = some l →
    (∀ x ∈ l, Q x.1 x.2.1 x.2.2.as) → AC P γ c e s.as Q := by
  have key : ∀ {x : Out} {l : List Out}, one x = some l → x ∈ l := fun h => by simp only [one, Option.some.injEq] at h; rw [← h]; simp
  intro c
  induction c with
  | skip => exact fun h hQ => hQ _ (key h)
  | exit id => exact fun h hQ => hQ _ (key h)
  | ret => exact fun h hQ => hQ _ (key h)
  | ops fz t => exact fun h hQ => bRT_ok hd hcall h hQ
  | seq a b iha ihb =>
    intro e s l Q h hQ
    simp only [bIC] at h
    split at h
    · rename_i l' hl'
      refine iha hl' fun x hx => ?_
      obtain ⟨m, h1, h2⟩ := catE_mem h x hx
      obtain ⟨ax, e', s'⟩ := x
      cases ax with
      | normal => exact ihb h1 fun y hy => hQ y (h2 y hy)
      | _ => exact hQ _ (h2 _ (key h1))
    · cases h
  | cond c a b iha ihb =>
    intro e s l Q h hQ
    simp only [bIC] at h
    simp only [AC]
    split at h
    · rename_i t hv; rw [hv]; simp only
      split at h
      · rename_i hb; rw [if_pos hb]; exact iha h hQ
      · rename_i hb; rw [if_neg hb]; exact ihb h hQ
    · cases h
  | block id b ih =>
    intro e s l Q h hQ
    simp only [bIC] at h
    split at h
    · rename_i l' hl'
      simp only [Option.some.injEq] at h; subst h
      refine ih hl' fun x hx => ?_
      have := hQ _ (List.mem_map.2 ⟨x, hx, rfl⟩)
      obtain ⟨ax, e', s'⟩ := x
      cases ax with
      | exit j =>
        simp only at this ⊢
        split
        · rename_i hj; rw [if_pos hj] at this; exact this
        · rename_i hj; rw [if_neg hj] at this; exact this
      | _ => exact this
    · cases h
  | loop b ih =>
    intro e s l Q h hQ
    simp only [bIC] at h
    refine ⟨fun e σ n => ∃ (s : DS) (l' : List Out), σ = s.as ∧ bLoop (bIC γ call lf b) n e s = some l' ∧ ∀ x ∈ l', x ∈ l, ⟨e, s.as, lf, ⟨ac_loop.vles_refl e.t, rfl⟩, SubD.refl γ _, s, l, rfl, h, fun x hx => hx⟩, ?_⟩
    rintro e0 σ0 n ⟨s0, l0, rfl, h0, hl0⟩
    cases n with
    | zero => cases h0
    | succ n =>
      simp only [bLoop] at h0
      split at h0
      · rename_i l1 hl1
        refine ih hl1 fun x hx => ?_
        obtain ⟨m, h1, h2⟩ := catE_mem h0 x hx
        obtain ⟨ax, e', s'⟩ := x
        cases ax with
        | normal => exact ⟨e', s'.as, n, ⟨ac_loop.vles_refl e'.t, rfl⟩, SubD.refl γ _, by omega, s', m, rfl, h1, fun y hy => hl0 y (h2 y hy)⟩
        | _ => exact hQ _ (hl0 _ (h2 _ (key h1)))
      · cases h0
end

/-! ### calls -/

/-- Deferred calls that are known. -/
abbrev DPrim := FuncId → List AV → AM → DS → Option (AM × DS)
def PrDOk (P : Program) (γ : Ctx) (pd : DPrim) : Prop := ∀ f args u s r, pd f args u s = some r → ∀ R : AM → AS → Prop, R r.1 r.2.as → ACallD P γ f args u s.as R

def leaveB (pd : DPrim) (res : List IRes) (t : List AV) : List (FuncId × List AV) → AM → DS → Option (List (AEnd × DS))
  | [], .ret, s => match resVal t s.as res with
    | some v => one (.ret v, s)
    | none => none
  | [], .pan v, s => one (.pan v, s)
  | d :: ds, u, s => match pd d.1 d.2 u s with
    | some r => leaveB pd res t ds r.1 r.2
    | none => none

theorem leave_ok {P : Program} {γ : Ctx} {pd : DPrim} {res : List IRes} {t : List AV} {R : AEnd → AS → Prop} (hpd : PrDOk P γ pd) : ∀ {ds : List (FuncId × List AV)} {u : AM} {s : DS} {l : List (AEnd × DS)},
    leaveB pd res t ds u s = some l → (∀ x ∈ l, R x.1 x.2.as) → ALeaves P γ t res R ds u s.as
  | [], .ret, s, l, h, hl => by
    simp only [leaveB] at h
    simp only [ALeaves]
    split at h
    · rename_i v hv
      rw [hv]
      simp only [one, Option.some.injEq] at h
      exact ⟨s.as, SubD.refl γ _, hl (.ret v, s) (by rw [← h]; simp)⟩
    · cases h
  | [], .pan v, s, l, h, hl => by
    simp only [leaveB, one, Option.some.injEq] at h
    exact ⟨s.as, SubD.refl γ _, hl (.pan v, s) (by rw [← h]; simp)⟩
  | d :: ds, u, s, l, h, hl => by
    simp only [leaveB] at h
    simp only [ALeaves]
    split at h
    · rename_i r hr
      exact hpd _ _ _ _ r hr _ (leave_ok hpd h hl)
    · cases h

def bPost (pd : DPrim) (res : List IRes) (x : Out) : Option (List (AEnd × DS)) :=
  match x.1 with
  | .normal => leaveB pd res x.2.1.t x.2.1.d .ret x.2.2
  | .ret => leaveB pd res x.2.1.t x.2.1.d .ret x.2.2
  | .pan v => leaveB pd res x.2.1.t x.2.1.d (.pan v) x.2.2
  | .exit _ => none

theorem bPost_ok {P : Program} {γ : Ctx} {pd : DPrim} {res : List IRes} {R : AEnd → AS → Prop} (hpd : PrDOk P γ pd) {x : Out} {l : List (AEnd × DS)} (h : bPost pd res x = some l) (hl : ∀ y ∈ l, R y.1 y.2.as) :
    APost P γ res R x.1 x.2.1 x.2.2.as := by
  obtain ⟨ax, e, s⟩ := x
  cases ax with
  | normal => exact leave_ok hpd h hl
  | ret => exact leave_ok hpd h hl
  | pan v => exact leave_ok hpd h hl
  | exit id => cases h

def findF : List (Nat × IFn) → Nat → Option IFn
  | [], _ => none
  | (k, i) :: r, f => if k = f then some i else findF r f

/-- Each is its function's code. -/
def TbOk (P : Program) : List (Nat × IFn) → Prop
  | [] => True
  | (k, i) :: r => (∃ h ks, compFunc P h ks k = some i) ∧ TbOk P r

theorem findF_ok {P : Program} : ∀ {tb : List (Nat × IFn)} {f : Nat} {i : IFn}, TbOk P tb → findF tb f = some i → ∃ h ks, compFunc P h ks f = some i
  | [], f, i, _, h => by cases h
  | (k, j) :: r, f, i, ht, h => by
    simp only [findF] at h
    split at h
    · rename_i hk
      simp only [Option.some.injEq] at h
      subst hk h
      exact ht.1
    · exact findF_ok ht.2 h

abbrev Prim := FuncId → List AV → DS → Option (AEnd × DS)
def PrOk (P : Program) (γ : Ctx) (pr : Prim) : Prop := ∀ f args s r, pr f args s = some r → ∀ R : AEnd → AS → Prop, R r.1 r.2.as → ACall P γ f args s.as R

def bCall (γ : Ctx) (tb : List (Nat × IFn)) (pr : Prim) (pd : DPrim) (lf : Nat) : Nat → BCall
  | 0, _, _, _ => none
  | d + 1, f, args, s => match pr f args s with
    | some r => one r
    | none => match findF tb f with
      | some i => match bIC γ (bCall γ tb pr pd lf d) lf i.body ⟨args ++ List.replicate (i.nt - args.length) undefA, []⟩ s with
        | some l => (catE (bPost pd i.res) l).map mergeE
        | none => none
      | none => none

theorem ACall.weak {P : Program} {γ : Ctx} {f : FuncId} {args : List AV} {σ : AS} {R R' : AEnd → AS → Prop} (h : ACall P γ f args σ R)
    (hr : ∀ r σ', R r σ' → ∃ r1 σ1, (∀ G e, ER G r e → ER G r1 e) ∧ SubD γ σ1 σ' ∧ R' r1 σ1) : ACall P γ f args σ R' := fun G w vs h1 h2 h3 =>
  (h G w vs h1 h2 h3).mono fun e w' ⟨G', r, σ', k1, k2, k3, k4⟩ => by
    obtain ⟨r1, σ1, j1, j2, j3⟩ := hr r σ' k4
    exact ⟨G', r1, σ1, k1, k2.subD (h1.1.trans k1.det.symm) j2, j1 _ _ k3, j3⟩

theorem bCall_ok {P : Program} {γ : Ctx} {tb : List (Nat × IFn)} {pr : Prim} {pd : DPrim} {lf : Nat} (hm : P.follows .mixedOrders = true) (hd : γ.det = true) (ht : TbOk P tb) (hp : PrOk P γ pr) (hpd : PrDOk P γ pd) : ∀ d, BOK P γ (bCall γ tb pr pd lf d) := by
  intro d
  induction d with
  | zero => intro f args s l h; cases h
  | succ d ih =>
    intro f args s l h R hR
    simp only [bCall] at h
    split at h
    · rename_i r hr
      simp only [one, Option.some.injEq] at h; subst h
      exact hp f args s r hr R (hR r (by simp))
    · split at h
      · rename_i i hi
        obtain ⟨hh, ks, hc⟩ := findF_ok ht hi
        split at h
        · rename_i lo hlo
          obtain ⟨le, hle, rfl⟩ := map_some h
          have main : ACall P γ f args s.as (fun r σ' => ∃ s' : DS, σ' = s'.as ∧ (r, s') ∈ le) := by
            refine calls_sound hm hc ?_
            refine bIC_ok hd ih hlo fun x hx => ?_
            obtain ⟨m, h1, h2⟩ := catE_mem hle x hx
            exact bPost_ok hpd h1 fun y hy => ⟨y.2, rfl, h2 _ hy⟩
          refine main.weak ?_
          rintro r σ' ⟨s', rfl, hm'⟩
          obtain ⟨y, hy1, hy2⟩ := mergeE_le (γ := γ) hm'
          exact ⟨y.1, y.2.as, hy2.1, hy2.2, hR y hy1⟩
        · cases h
      · cases h
end Go.VS
