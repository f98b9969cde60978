/-
  VALUE SEMANTICS, PART W. Laws for walks: each step as an equation, what follows a step kept out of the simplifier's sight.
-/
import Derived.Test.YtbmnhnohahacaaaGreatDoorVsT
namespace Go.VS
open Go.RowKit
set_option linter.unusedSimpArgs false
set_option linter.unusedVariables false

theorem gs_eq {t : List AV} {i : Nat} {v d : AV} (h : i < t.length) : (t.set i v).getD i d = v := by
  simp [List.getD_eq_getElem?_getD, h]
theorem gs_ne {t : List AV} {i j : Nat} {v d : AV} (h : i ≠ j) : (t.set i v).getD j d = t.getD j d := by
  simp [List.getD_eq_getElem?_getD, List.getElem?_set_ne h]
theorem ga_lt {as bs : List AV} {i : Nat} {d : AV} (h : i < as.length) : (as ++ bs).getD i d = as.getD i d := by
  simp [List.getD_eq_getElem?_getD, List.getElem?_append_left h]
theorem gd_0 {a : AV} {as : List AV} {d : AV} : (a :: as).getD 0 d = a := rfl
theorem gd_1 {a b : AV} {as : List AV} {d : AV} : (a :: b :: as).getD 1 d = b := rfl
theorem gd_2 {a b c : AV} {as : List AV} {d : AV} : (a :: b :: c :: as).getD 2 d = c := rfl
theorem gd_3 {a b c x : AV} {as : List AV} {d : AV} : (a :: b :: c :: x :: as).getD 3 d = x := rfl

section
variable {P : Program} {γ : Ctx} {ks : List Nat} {Q : AX → Env → AS → Prop} {e : Env} {σ : AS}

def gdB (v : AV) (w : Bool) (A B : Prop) : Prop :=
  match v with
  | .bool b => if b = w then A else B
  | .tuple [] => B
  | _ => False
def gdA (g : Option (Nat × Bool)) (t : List AV) (A B : Prop) : Prop :=
  match g with
  | none => A
  | some (g, w) => gdB (t.getD g undefA) w A B
theorem gdA_none {t : List AV} {A B : Prop} : gdA none t A B = A := rfl
theorem gdA_some {t : List AV} {g : Nat} {w : Bool} {A B : Prop} : gdA (some (g, w)) t A B = gdB (t.getD g undefA) w A B := rfl
theorem gdB_bool {b w : Bool} {A B : Prop} : gdB (.bool b) w A B = if b = w then A else B := rfl
theorem gdB_un {w : Bool} {A B : Prop} : gdB undefA w A B = B := rfl
theorem gdA_congr {g : Option (Nat × Bool)} {t : List AV} {A B : Prop} : gdA g t A B = gdA g t A B := rfl
theorem gdB_congr {v v' : AV} {w : Bool} {A B : Prop} (h : v = v') : gdB v w A B = gdB v' w A B := by rw [h]

theorem AI_eq {i : II} {K : Env → AS → Prop} (h : ∀ x as, i.op ≠ .defer x as) : AI P γ ks i e σ K Q = gdA i.gd e.t (AOp P γ (XO.ev γ e.t) σ (fun v σ' => K (e.put i.dst v) σ') (fun v σ' => Q (.pan v) { e with t := only ks 0 e.t } σ') i.op) (K (e.put i.dst undefA) σ) := by
  obtain ⟨d, g, o⟩ := i
  cases o
  case defer x as => exact absurd rfl (h x as)
  all_goals
    unfold AI gdA gdB
    cases g with
    | none => rfl
    | some gw => rfl

/-- What a call does, where it stands. -/
def CallK (P : Program) (γ : Ctx) (f : Nat) (args : List AV) (σ : AS) (K Kp : AV → AS → Prop) : Prop :=
  ACall P γ f args σ fun r σ' => match r with | .ret v => K v σ' | .pan v => Kp v σ'
theorem CallK_congr {f : Nat} {args args' : List AV} {K Kp : AV → AS → Prop} (h : args = args') : CallK P γ f args σ K Kp = CallK P γ f args' σ K Kp := by rw [h]
theorem AOp_congr {ev : XO → AV} {K Kp : AV → AS → Prop} {o : IOp} : AOp P γ ev σ K Kp o = AOp P γ ev σ K Kp o := rfl
theorem AC_congr {c : IC} : AC P γ c e σ Q = AC P γ c e σ Q := rfl
theorem ART_congr {t : RT} : ART P γ ks Q t e σ = ART P γ ks Q t e σ := rfl
theorem Opt_congr {α : Type} {x x' : Option α} {K : α → Prop} (h : x = x') : Opt x K = Opt x' K := by rw [h]
theorem APost_congr {r : List IRes} {R : AEnd → AS → Prop} {x : AX} : APost P γ r R x e σ = APost P γ r R x e σ := rfl
theorem opt_some {α : Type} (a : α) (K : α → Prop) : Opt (some a) K = K a := rfl

theorem ac_skip : AC P γ .skip e σ Q = Q .normal e σ := rfl
theorem ac_ops {t : RT} : AC P γ (.ops ks t) e σ Q = ART P γ ks Q t e σ := rfl
theorem ac_exit {id : Nat} : AC P γ (.exit id) e σ Q = Q (.exit id) e σ := rfl
theorem ac_ret : AC P γ .ret e σ Q = Q .ret e σ := rfl
def seqQ (P : Program) (γ : Ctx) (b : IC) (Q : AX → Env → AS → Prop) : AX → Env → AS → Prop := fun x e' σ' => match x with
  | .normal => AC P γ b e' σ' Q
  | x => Q x e' σ'
def blkQ (id : Nat) (Q : AX → Env → AS → Prop) : AX → Env → AS → Prop := fun x e' σ' => match x with
  | .exit j => if j = id then Q .normal e' σ' else Q (.exit j) e' σ'
  | x => Q x e' σ'
theorem ac_seq {a b : IC} : AC P γ (.seq a b) e σ Q = AC P γ a e σ (seqQ P γ b Q) := rfl
theorem ac_block {id : Nat} {b : IC} : AC P γ (.block id b) e σ Q = AC P γ b e σ (blkQ id Q) := rfl
theorem seq_n {b : IC} : seqQ P γ b Q .normal e σ = AC P γ b e σ Q := rfl
theorem seq_e {b : IC} {j : Nat} : seqQ P γ b Q (.exit j) e σ = Q (.exit j) e σ := rfl
theorem seq_r {b : IC} : seqQ P γ b Q .ret e σ = Q .ret e σ := rfl
theorem seq_p {b : IC} {v : AV} : seqQ P γ b Q (.pan v) e σ = Q (.pan v) e σ := rfl
theorem blk_n {id : Nat} : blkQ id Q .normal e σ = Q .normal e σ := rfl
theorem blk_e {id j : Nat} : blkQ id Q (.exit j) e σ = if j = id then Q .normal e σ else Q (.exit j) e σ := rfl
theorem blk_r {id : Nat} : blkQ id Q .ret e σ = Q .ret e σ := rfl
theorem blk_p {id : Nat} {v : AV} : blkQ id Q (.pan v) e σ = Q (.pan v) e σ := rfl
theorem seqQ_congr {b : IC} {x : AX} : seqQ P γ b Q x e σ = seqQ P γ b Q x e σ := rfl
theorem blkQ_congr {id : Nat} {x : AX} : blkQ id Q x e σ = blkQ id Q x e σ := rfl

def cnd (v : AV) (A B : Prop) : Prop :=
  match v with
  | .bool t => if t = true then A else B
  | _ => False
theorem cnd_bool {b : Bool} {A B : Prop} : cnd (.bool b) A B = if b = true then A else B := rfl
theorem cnd_congr {v v' : AV} {A B : Prop} (h : v = v') : cnd v A B = cnd v' A B := by rw [h]
theorem ac_cond {c : XO} {a b : IC} : AC P γ (.cond c a b) e σ Q = cnd (XO.ev γ e.t c) (AC P γ a e σ Q) (AC P γ b e σ Q) := by
  rfl

theorem art_done : ART P γ ks Q .done e σ = Q .normal e σ := rfl
theorem art_p {d : Option Nat} {g : Option (Nat × Bool)} {q : POp} {k : RT} : ART P γ ks Q (.op ⟨d, g, .p q⟩ k) e σ = gdA g e.t (Opt (pop (XO.ev γ e.t) q) fun v => ART P γ ks Q k (e.put d v) σ) (ART P γ ks Q k (e.put d undefA) σ) := by
  simp only [ART]; rw [AI_eq (by intro x as h; cases h)]; rfl
theorem art_call {d : Option Nat} {g : Option (Nat × Bool)} {f : Nat} {as : List XO} {k : RT} : ART P γ ks Q (.op ⟨d, g, .call f as⟩ k) e σ =
    gdA g e.t (CallK P γ f (as.map (XO.ev γ e.t)) σ (fun v σ' => ART P γ ks Q k (e.put d v) σ') (fun v σ' => Q (.pan v) { e with t := only ks 0 e.t } σ')) (ART P γ ks Q k (e.put d undefA) σ) := by
  simp only [ART]; rw [AI_eq (by intro x as h; cases h)]; rfl
/-- What a call of a function's value does. -/
def callv (P : Program) (γ : Ctx) (x : AV) (args : List AV) (σ : AS) (K Kp : AV → AS → Prop) : Prop :=
  match x with
  | .func (.func f) first cap => CallK P γ f (first ++ args ++ cap) σ K Kp
  | _ => False
theorem callv_func {f : Nat} {first cap args : List AV} {K Kp : AV → AS → Prop} : callv P γ (.func (.func f) first cap) args σ K Kp = CallK P γ f (first ++ args ++ cap) σ K Kp := rfl
theorem callv_congr {x x' : AV} {args args' : List AV} {K Kp : AV → AS → Prop} (h : x = x') (h' : args = args') : callv P γ x args σ K Kp = callv P γ x' args' σ K Kp := by rw [h, h']
theorem art_callv {d : Option Nat} {g : Option (Nat × Bool)} {x : XO} {as : List XO} {k : RT} : ART P γ ks Q (.op ⟨d, g, .callv x as⟩ k) e σ =
    gdA g e.t (callv P γ (XO.ev γ e.t x) (as.map (XO.ev γ e.t)) σ (fun v σ' => ART P γ ks Q k (e.put d v) σ') (fun v σ' => Q (.pan v) { e with t := only ks 0 e.t } σ')) (ART P γ ks Q k (e.put d undefA) σ) := by
  simp only [ART]; rw [AI_eq (by intro x as h; cases h)]; rfl
/-- Any other operation. -/
theorem art_o {d : Option Nat} {g : Option (Nat × Bool)} {o : IOp} {k : RT} (h : ∀ x as, o ≠ .defer x as) : ART P γ ks Q (.op ⟨d, g, o⟩ k) e σ =
    gdA g e.t (AOp P γ (XO.ev γ e.t) σ (fun v σ' => ART P γ ks Q k (e.put d v) σ') (fun v σ' => Q (.pan v) { e with t := only ks 0 e.t } σ') o) (ART P γ ks Q k (e.put d undefA) σ) := by
  simp only [ART]; rw [AI_eq h]
theorem art_alloc {d : Option Nat} {g : Option (Nat × Bool)} {zs : List AV} {k : RT} : ART P γ ks Q (.op ⟨d, g, .alloc zs⟩ k) e σ =
    gdA g e.t (∀ l, Nw γ σ l → ART P γ ks Q k (e.put d (.ptr l 0)) (σ.upd l (.cells zs))) (ART P γ ks Q k (e.put d undefA) σ) := art_o (by intro x as h; cases h)
theorem art_mkmap {d : Option Nat} {g : Option (Nat × Bool)} {k : RT} : ART P γ ks Q (.op ⟨d, g, .mkmap⟩ k) e σ =
    gdA g e.t (∀ l, Nw γ σ l → ART P γ ks Q k (e.put d (.map l)) (σ.upd l (.map [] .nil))) (ART P γ ks Q k (e.put d undefA) σ) := art_o (by intro x as h; cases h)
theorem art_br {l r : RT} : ART P γ ks Q (.br l r) e σ = (ART P γ ks Q l e σ ∧ ART P γ ks Q r e σ) := rfl

theorem put_some {t : List AV} {ds : List (FuncId × List AV)} {d : Nat} {v : AV} : Env.put ⟨t, ds⟩ (some d) v = ⟨t.set d v, ds⟩ := rfl
theorem put_none {v : AV} : e.put none v = e := rfl
theorem ev_tmp' {t : List AV} {i : Nat} : XO.ev γ t (.tmp i) = t.getD i undefA := rfl
theorem ev_con {t : List AV} {v : AV} : XO.ev γ t (.con v) = v := rfl
theorem ev_glob {t : List AV} {g : Nat} : XO.ev γ t (.glob g) = γ g := rfl
theorem ite_bool {c : Prop} [Decidable c] {a b : Bool} : (if c then AV.bool a else AV.bool b) = AV.bool (if c then a else b) := by split <;> rfl

/-- Of an 'if' between two ways on, the condition alone is worked on. -/
theorem if_cond_congr {c c' : Prop} [Decidable c] [Decidable c'] {A B : Prop} (h : c = c') : (if c then A else B) = (if c' then A else B) := by
  subst h; split <;> rfl

/-- The body of a function, at its start. -/
theorem fn_start {i : IFn} {args : List AV} {R : AEnd → AS → Prop} : AFn P γ i args σ R = AC P γ i.body ⟨args ++ List.replicate (i.nt - args.length) undefA, []⟩ σ (APost P γ i.res R) := rfl

theorem post_ret1 {k : Nat} {t : List AV} {R : AEnd → AS → Prop} : APost P γ [.tmp k] R .ret ⟨t, []⟩ σ = ∃ σ1, SubD γ σ1 σ ∧ R (.ret (t.getD k undefA)) σ1 := by
  simp [APost, ALeaves, resVal, IRes.get, Opt]
theorem post_pan {r : List IRes} {t : List AV} {v : AV} {R : AEnd → AS → Prop} : APost P γ r R (.pan v) ⟨t, []⟩ σ = ∃ σ1, SubD γ σ1 σ ∧ R (.pan v) σ1 := by
  simp [APost, ALeaves]
theorem Sub.refl (σ : AS) : Sub σ σ := fun _ _ h => h
theorem SubD.refl (γ : Ctx) (σ : AS) : SubD γ σ σ := ⟨Sub.refl σ, fun _ => Nat.le_refl _⟩

theorem ac_mono : ∀ {c : IC} {e : Env} {σ : AS} {Q Q' : AX → Env → AS → Prop}, AC P γ c e σ Q → (∀ x e' σ', Q x e' σ' → Q' x e' σ') → AC P γ c e σ Q' := by
  intro c
  induction c with
  | skip => exact fun h k => k _ _ _ h
  | exit id => exact fun h k => k _ _ _ h
  | ret => exact fun h k => k _ _ _ h
  | ops fz t =>
    intro e σ Q Q' h k
    have art : ∀ {t : RT} {e : Env} {σ : AS}, ART P γ fz Q t e σ → ART P γ fz Q' t e σ := by
      intro t
      induction t with
      | done => exact fun h => k _ _ _ h
      | op i t ih =>
        intro e σ h
        simp only [ART] at h ⊢
        have h1 := ai_mono (K' := fun e' σ' => ART P γ fz Q' t e' σ') h (fun e' σ' h => ih h)
        unfold AI at h1 ⊢
        simp only at h1 ⊢
        have hr : (match i.op with
          | .defer x args => match XO.ev γ e.t x with
            | .func (.func f) first cap => ART P γ fz Q' t (({ e with d := (f, first ++ args.map (XO.ev γ e.t) ++ cap) :: e.d } : Env).put i.dst undefA) σ
            | _ => False
          | o => AOp P γ (XO.ev γ e.t) σ (fun v σ' => ART P γ fz Q' t (e.put i.dst v) σ') (fun v σ' => Q (.pan v) { e with t := only fz 0 e.t } σ') o) →
          (match i.op with
          | .defer x args => match XO.ev γ e.t x with
            | .func (.func f) first cap => ART P γ fz Q' t (({ e with d := (f, first ++ args.map (XO.ev γ e.t) ++ cap) :: e.d } : Env).put i.dst undefA) σ
            | _ => False
          | o => AOp P γ (XO.ev γ e.t) σ (fun v σ' => ART P γ fz Q' t (e.put i.dst v) σ') (fun v σ' => Q' (.pan v) { e with t := only fz 0 e.t } σ') o) := fun hh => by
          split
          · rename_i hop; rw [hop] at hh; exact hh
          · rename_i hop
            split at hh
            · rename_i x as h'; exact absurd h' (hop x as)
            · exact aop_mono hh (fun _ _ _ h => h) (fun _ _ h => k _ _ _ h)
        split at h1
        · exact hr h1
        · split at h1
          · split at h1
            · rename_i hb; rw [if_pos hb]; exact hr h1
            · rename_i hb; rw [if_neg hb]; exact h1
          · exact h1
          · exact h1.elim
      | br l r ihl ihr => exact fun h => ⟨ihl h.1, ihr h.2⟩
    exact art h
  | seq a b iha ihb =>
    intro e σ Q Q' h k
    refine iha h fun x e' σ' hx => ?_
    cases x with
    | normal => exact ihb hx k
    | _ => exact k _ _ _ hx
  | cond c a b iha ihb =>
    intro e σ Q Q' h k
    simp only [AC] at h ⊢
    split at h
    · split at h
      · rename_i hb; rw [if_pos hb]; exact iha h k
      · rename_i hb; rw [if_neg hb]; exact ihb h k
    · exact h.elim
  | block id b ih =>
    intro e σ Q Q' h k
    refine ih h fun x e' σ' hx => ?_
    cases x with
    | exit j =>
      simp only at hx ⊢
      split at hx
      · rename_i hj; rw [if_pos hj]; exact k _ _ _ hx
      · rename_i hj; rw [if_neg hj]; exact k _ _ _ hx
    | _ => exact k _ _ _ hx
  | loop b ih =>
    intro e σ Q Q' h k
    obtain ⟨I, h0, h1⟩ := h
    refine ⟨I, h0, fun e0 σ0 n hi => ih (h1 e0 σ0 n hi) fun x e' σ' hx => ?_⟩
    cases x with
    | normal => exact hx
    | _ => exact k _ _ _ hx

def loopQ (I : Env → AS → Nat → Prop) (n : Nat) (Q : AX → Env → AS → Prop) : AX → Env → AS → Prop := fun x e' σ' => match x with
  | .normal => ∃ m, m < n ∧ I e' σ' m
  | x => Q x e' σ'
theorem loop_n {I : Env → AS → Nat → Prop} {n : Nat} : loopQ I n Q .normal e σ = ∃ m, m < n ∧ I e σ m := rfl
theorem loop_e {I : Env → AS → Nat → Prop} {n j : Nat} : loopQ I n Q (.exit j) e σ = Q (.exit j) e σ := rfl
theorem loop_r {I : Env → AS → Nat → Prop} {n : Nat} : loopQ I n Q .ret e σ = Q .ret e σ := rfl
theorem loop_p {I : Env → AS → Nat → Prop} {n : Nat} {v : AV} : loopQ I n Q (.pan v) e σ = Q (.pan v) e σ := rfl
theorem loopQ_congr {I : Env → AS → Nat → Prop} {n : Nat} {x : AX} : loopQ I n Q x e σ = loopQ I n Q x e σ := rfl

/-- A loop, with what holds at its start (stated of what is known then), and a measure. -/
theorem ac_loop {b : IC} (I : Env → AS → Nat → Prop) (n : Nat) (h0 : I e σ n)
    (h : ∀ e0 σ0 n, I e0 σ0 n → AC P γ b e0 σ0 (loopQ I n Q)) : AC P γ (.loop b) e σ Q := by
  refine ⟨I, ⟨e, σ, n, ⟨?_, rfl⟩, SubD.refl γ σ, h0⟩, fun e0 σ0 n hi => ac_mono (h e0 σ0 n hi) fun x e' σ' hx => ?_⟩
  · exact vles_refl e.t
  · cases x with
    | normal =>
      obtain ⟨m, h1, h2⟩ := hx
      exact ⟨e', σ', m, ⟨vles_refl e'.t, rfl⟩, SubD.refl γ σ', h1, h2⟩
    | _ => exact hx
where
  vles_refl : ∀ t : List AV, VLes t t
    | [] => rfl
    | a :: t => ⟨a, t, rfl, fun _ _ h => h, vles_refl t⟩

/-! ### rules -/

theorem r_seq {a b : IC} (h : AC P γ a e σ (seqQ P γ b Q)) : AC P γ (.seq a b) e σ Q := h
theorem r_block {id : Nat} {b : IC} (h : AC P γ b e σ (blkQ id Q)) : AC P γ (.block id b) e σ Q := h
theorem r_skip (h : Q .normal e σ) : AC P γ .skip e σ Q := h
theorem r_exit {id : Nat} (h : Q (.exit id) e σ) : AC P γ (.exit id) e σ Q := h
theorem r_ret (h : Q .ret e σ) : AC P γ .ret e σ Q := h
theorem r_sn {b : IC} (h : AC P γ b e σ Q) : seqQ P γ b Q .normal e σ := h
theorem r_se {b : IC} {j : Nat} (h : Q (.exit j) e σ) : seqQ P γ b Q (.exit j) e σ := h
theorem r_sr {b : IC} (h : Q .ret e σ) : seqQ P γ b Q .ret e σ := h
theorem r_sp {b : IC} {v : AV} (h : Q (.pan v) e σ) : seqQ P γ b Q (.pan v) e σ := h
theorem r_bn {id : Nat} (h : Q .normal e σ) : blkQ id Q .normal e σ := h
theorem r_be {id : Nat} (h : Q .normal e σ) : blkQ id Q (.exit id) e σ := by unfold blkQ; simp only [if_true]; exact h
theorem r_bx {id j : Nat} (hj : (j == id) = false) (h : Q (.exit j) e σ) : blkQ id Q (.exit j) e σ := by unfold blkQ; simp only; rw [if_neg (by simpa using hj)]; exact h
theorem r_br {id : Nat} (h : Q .ret e σ) : blkQ id Q .ret e σ := h
theorem r_bp {id : Nat} {v : AV} (h : Q (.pan v) e σ) : blkQ id Q (.pan v) e σ := h
theorem r_le {I : Env → AS → Nat → Prop} {n j : Nat} (h : Q (.exit j) e σ) : loopQ I n Q (.exit j) e σ := h
theorem r_lr {I : Env → AS → Nat → Prop} {n : Nat} (h : Q .ret e σ) : loopQ I n Q .ret e σ := h
theorem r_lp {I : Env → AS → Nat → Prop} {n : Nat} {v : AV} (h : Q (.pan v) e σ) : loopQ I n Q (.pan v) e σ := h
theorem r_ops {t : RT} (h : ∀ Q' : AX → Env → AS → Prop, (∀ x e σ, Q x e σ → Q' x e σ) → ART P γ ks Q' t e σ) : AC P γ (.ops ks t) e σ Q := h Q fun _ _ _ h => h
theorem r_cond {c : XO} {a b : IC} (h : ∀ A B : Prop, (AC P γ a e σ Q → A) → (AC P γ b e σ Q → B) → cnd (XO.ev γ e.t c) A B) : AC P γ (.cond c a b) e σ Q := h _ _ id id
theorem r_br2 {l r : RT} (h1 : ART P γ ks Q l e σ) (h2 : ART P γ ks Q r e σ) : ART P γ ks Q (.br l r) e σ := ⟨h1, h2⟩
/-- A guarded operation. -/
theorem r_g {d : Option Nat} {g : Nat} {w : Bool} {o : IOp} {k : RT} (h : ∀ A B : Prop, (ART P γ ks Q (.op ⟨d, none, o⟩ k) e σ → A) → (ART P γ ks Q k (e.put d undefA) σ → B) → gdB (e.t.getD g undefA) w A B) :
    ART P γ ks Q (.op ⟨d, some (g, w), o⟩ k) e σ := by
  have h1 := h (ART P γ ks Q (.op ⟨d, none, o⟩ k) e σ) (ART P γ ks Q k (e.put d undefA) σ) id id
  unfold gdB at h1
  simp only [ART, AI] at h1 ⊢
  split at h1
  · rename_i b hb
    rw [hb]; simp only
    split at h1
    · rename_i hbw; rw [if_pos hbw]; exact h1
    · rename_i hbw; rw [if_neg hbw]; exact h1
  · rename_i hb; rw [hb]; exact h1
  · exact h1.elim

def ArtV (P : Program) (γ : Ctx) (ks : List Nat) (Q : AX → Env → AS → Prop) (k : RT) (d : Option Nat) (e : Env) (σ : AS) (x : Option AV) : Prop := Opt x fun v => ART P γ ks Q k (e.put d v) σ
theorem u_p {d : Option Nat} {q : POp} {k : RT} : ART P γ ks Q (.op ⟨d, none, .p q⟩ k) e σ = ArtV P γ ks Q k d e σ (pop (XO.ev γ e.t) q) := rfl
theorem u_v {d : Option Nat} {k : RT} {v : AV} : ArtV P γ ks Q k d e σ (some v) = ART P γ ks Q k (e.put d v) σ := rfl
theorem r_gp {d : Option Nat} {g : Nat} {w : Bool} {q : POp} {k : RT} {b : Bool} {v : AV} (hg : e.t.getD g undefA = .bool b) (hv : b = w → pop (XO.ev γ e.t) q = some v)
    (h : ART P γ ks Q k (e.put d (if b = w then v else undefA)) σ) : ART P γ ks Q (.op ⟨d, some (g, w), .p q⟩ k) e σ := by
  simp only [ART, AI]
  rw [hg]
  simp only
  split
  · rename_i hb
    simp only [AOp]
    rw [hv hb]
    rw [if_pos hb] at h
    exact h
  · rename_i hb
    rw [if_neg hb] at h
    exact h
theorem ite_tt {p : Prop} [Decidable p] {a b c : AV} : (if p then (if p then a else b) else c) = if p then a else c := by split <;> rfl
theorem ite_tf {p : Prop} [Decidable p] {a b c : AV} : (if p then a else (if ¬p then b else c)) = if p then a else b := by split <;> simp_all
theorem ite_ff {p : Prop} [Decidable p] {a b c : AV} : (if ¬p then (if ¬p then a else b) else c) = if p then c else a := by split <;> simp_all
theorem ite_nn {p : Prop} [Decidable p] {a b : AV} : (if ¬p then a else b) = if p then b else a := by split <;> simp_all
theorem ite_and' {p : Prop} [Decidable p] {x : Bool} : (if p then x else false) = (decide p && x) := by split <;> simp_all
theorem ite_or' {p : Prop} [Decidable p] {x : Bool} : (if p then true else x) = (decide p || x) := by split <;> simp_all

def ArtS (P : Program) (γ : Ctx) (ks : List Nat) (Q : AX → Env → AS → Prop) (k : RT) (d : Option Nat) (e : Env) (x : Option (AV × AS)) : Prop := Opt x fun r => ART P γ ks Q k (e.put d r.1) r.2
theorem u_s {d : Option Nat} {k : RT} {v : AV} {σ' : AS} : ArtS P γ ks Q k d e (some (v, σ')) = ART P γ ks Q k (e.put d v) σ' := rfl
theorem u_load {d : Option Nat} {ag : Bool} {n : Nat} {x : XO} {k : RT} : ART P γ ks Q (.op ⟨d, none, .load ag n x⟩ k) e σ = ArtS P γ ks Q k d e (stOp (XO.ev γ e.t) σ (.load ag n x)) := rfl
theorem u_store {d : Option Nat} {n : Nat} {x v : XO} {k : RT} : ART P γ ks Q (.op ⟨d, none, .store n x v⟩ k) e σ = ArtS P γ ks Q k d e (stOp (XO.ev γ e.t) σ (.store n x v)) := rfl
theorem u_mapget {d : Option Nat} {pl : EP} {ok : Bool} {z : AV} {m x : XO} {k : RT} : ART P γ ks Q (.op ⟨d, none, .mapget pl ok z m x⟩ k) e σ = ArtS P γ ks Q k d e (stOp (XO.ev γ e.t) σ (.mapget pl ok z m x)) := rfl
theorem u_mapset {d : Option Nat} {pl : EP} {m x v : XO} {k : RT} : ART P γ ks Q (.op ⟨d, none, .mapset pl m x v⟩ k) e σ = ArtS P γ ks Q k d e (stOp (XO.ev γ e.t) σ (.mapset pl m x v)) := rfl
theorem u_maplen {d : Option Nat} {m : XO} {k : RT} : ART P γ ks Q (.op ⟨d, none, .maplen m⟩ k) e σ = ArtS P γ ks Q k d e (stOp (XO.ev γ e.t) σ (.maplen m)) := rfl
theorem u_nxt {d : Option Nat} {m : XO} {k : RT} : ART P γ ks Q (.op ⟨d, none, .nxt m⟩ k) e σ = ArtS P γ ks Q k d e (stOp (XO.ev γ e.t) σ (.nxt m)) := rfl
/-- A load, with what lies there. -/
def ldA (ag : Bool) (n : Nat) (v : AV) (σ : AS) : Option (AV × AS) := match v with
  | .ptr l o => match σ l with
    | some (.cells cs) => (partA ag cs o n).map fun v => (v, σ)
    | _ => none
  | .iptr cs => (partA ag cs 0 n).map fun v => (v, σ)
  | _ => none
theorem st_load {ev : XO → AV} {ag : Bool} {n : Nat} {x : XO} : stOp ev σ (.load ag n x) = ldA ag n (ev x) σ := rfl
theorem ld_ptr {ag : Bool} {n l o : Nat} {cs : List AV} (h : σ l = some (.cells cs)) : ldA ag n (.ptr l o) σ = (partA ag cs o n).map fun v => (v, σ) := by simp only [ldA, h]
theorem ld_iptr {ag : Bool} {n : Nat} {cs : List AV} : ldA ag n (.iptr cs) σ = (partA ag cs 0 n).map fun v => (v, σ) := rfl
def stA (n : Nat) (p v : AV) (σ : AS) : Option (AV × AS) := match p with
  | .ptr l o => match σ l with
    | some (.cells cs) => if v.known = true ∧ v.cells.length = n ∧ o + n ≤ cs.length then some (undefA, σ.upd l (.cells (setCells cs o v.cells))) else none
    | _ => none
  | _ => none
theorem st_store {ev : XO → AV} {n : Nat} {x v : XO} : stOp ev σ (.store n x v) = stA n (ev x) (ev v) σ := rfl
theorem st_ptr {n l o : Nat} {v : AV} {cs : List AV} (h : σ l = some (.cells cs)) (h1 : v.known = true) (h2 : v.cells.length = n) (h3 : o + n ≤ cs.length) :
    stA n (.ptr l o) v σ = some (undefA, σ.upd l (.cells (setCells cs o v.cells))) := by simp only [stA, h]; rw [if_pos ⟨h1, h2, h3⟩]
theorem upd_same {l : Nat} {x : AObj} : (σ.upd l x) l = some x := by simp [AS.upd_at]
theorem upd_ne {l k : Nat} {x : AObj} (h : k ≠ l) : (σ.upd l x) k = σ k := by simp [AS.upd_at, h]
theorem upd_upd' {l : Nat} {x y : AObj} : (σ.upd l x).upd l y = σ.upd l y := upd_upd σ l x y
theorem sub_upd {l : Nat} {x : AObj} (h : σ l = none) : Sub σ (σ.upd l x) := fun k o hk => by
  have : k ≠ l := fun e => by rw [e, h] at hk; cases hk
  rw [upd_ne this]; exact hk
theorem Sub.trans {σ1 σ2 σ3 : AS} (h : Sub σ1 σ2) (k : Sub σ2 σ3) : Sub σ1 σ3 := fun l o hl => k l o (h l o hl)

theorem r_storef {d : Option Nat} {s n : Nat} {v : XO} {k : RT} {l : Nat} {cs : List AV} {a : AV} (hx : e.t.getD s undefA = .ptr l 0) (hs : σ l = some (.cells cs)) (hv : XO.ev γ e.t v = a) (h1 : a.known = true) (h2 : a.cells.length = n) (h3 : cs.length = n)
    (h : ART P γ ks Q k (e.put d (.iptr a.cells)) (σ.del l)) : ART P γ ks Q (.op ⟨d, none, .storef s n v⟩ k) e σ := by
  subst hv
  simp only [ART, AI, AOp, XO.ev, hx, hs]
  exact ⟨h1, h2, h3, h⟩
theorem del_same {l : Nat} : (σ.del l) l = none := by simp [AS.del]
theorem del_ne {l k : Nat} (h : k ≠ l) : (σ.del l) k = σ k := by simp [AS.del, h]
/-- A new place, its name told. -/
theorem r_allocN {d : Option Nat} {zs : List AV} {k : RT} (h : ∀ l, Nw γ σ l → ART P γ ks Q k (e.put d (.ptr l 0)) (σ.upd l (.cells zs))) : ART P γ ks Q (.op ⟨d, none, .alloc zs⟩ k) e σ := h
theorem u_entst {d : Option Nat} {m x v : XO} {k : RT} : ART P γ ks Q (.op ⟨d, none, .entst m x v⟩ k) e σ = ArtS P γ ks Q k d e (stOp (XO.ev γ e.t) σ (.entst m x v)) := rfl
theorem u_mentry {d : Option Nat} {x : XO} {k : RT} : ART P γ ks Q (.op ⟨d, none, .mentry x⟩ k) e σ = ArtS P γ ks Q k d e (stOp (XO.ev γ e.t) σ (.mentry x)) := rfl
theorem r_ment {d : Option Nat} {pl : EP} {z : AV} {m x : XO} {k : RT} {l : Nat} {kv : AV} {es : List (AV × AV)} {st : Stamps} {r : AV × AV × List (AV × AV) × Stamps} (hm : XO.ev γ e.t m = .map l) (hx : XO.ev γ e.t x = kv) (hf : fitP pl kv = true)
    (hs : σ l = some (.map es st)) (hr : mentA pl z es st kv = some r) (h : ART P γ ks Q k (e.put d (.tuple [r.1, r.2.1])) (σ.upd l (.map r.2.2.1 r.2.2.2))) : ART P γ ks Q (.op ⟨d, none, .ment pl z m x⟩ k) e σ := by
  simp only [ART, AI, AOp, hm, hx, hs, hr, hf, Opt]
  exact ⟨trivial, h⟩
theorem r_mrng {d : Option Nat} {m : XO} {k : RT} {l : Nat} {es : List (AV × AV)} {st : Stamps} (hm : XO.ev γ e.t m = .map l) (hs : σ l = some (.map es st))
    (h : ∀ it, σ it = none → ART P γ ks Q k (e.put d (.ptr it 0)) (σ.upd it (.miter (some l) st.clk [] st.clk))) : ART P γ ks Q (.op ⟨d, none, .mrng m⟩ k) e σ := by
  simp only [ART, AI, AOp, hm, hs]
  exact fun it hi => h it hi.1
theorem r_mnxt {d : Option Nat} {x : XO} {k : RT} {it l : Nat} {seen : List Nat} {es : List (AV × AV)} {st : Stamps} (hx : XO.ev γ e.t x = .ptr it 0) (hi : σ it = some (.miter (some l) st.clk seen st.clk)) (hs : σ l = some (.map es st))
    (hb : ∀ b ∈ st.bs, b < st.clk) (h0 : (∀ b ∈ st.bs, b ∈ seen) → ART P γ ks Q k (e.put d (.tuple [.bool false])) σ)
    (h1 : ∀ (i b : Nat) (en : AV × AV), st.bs[i]? = some b → b ∉ seen → es[i]? = some en → ART P γ ks Q k (e.put d (.tuple [.bool true, en.1, en.2])) (σ.upd it (.miter (some l) st.clk (seen ++ [b]) st.clk))) :
    ART P γ ks Q (.op ⟨d, none, .mnxt x⟩ k) e σ := by
  simp only [ART, AI, AOp, hx, hi, hs]
  exact ⟨trivial, trivial, hb, h0, h1⟩

/-- A call: what follows is a variable, so that it is not worked on. -/
theorem r_call {d : Option Nat} {f : Nat} {as : List XO} {k : RT} (h : ∀ K Kp : AV → AS → Prop, (∀ v σ', ART P γ ks Q k (e.put d v) σ' → K v σ') → (∀ v σ', Q (.pan v) { e with t := only ks 0 e.t } σ' → Kp v σ') → CallK P γ f (as.map (XO.ev γ e.t)) σ K Kp) :
    ART P γ ks Q (.op ⟨d, none, .call f as⟩ k) e σ := h _ _ (fun _ _ h => h) (fun _ _ h => h)
theorem r_callv {d : Option Nat} {x : XO} {as : List XO} {k : RT} (h : ∀ K Kp : AV → AS → Prop, (∀ v σ', ART P γ ks Q k (e.put d v) σ' → K v σ') → (∀ v σ', Q (.pan v) { e with t := only ks 0 e.t } σ' → Kp v σ') → callv P γ (XO.ev γ e.t x) (as.map (XO.ev γ e.t)) σ K Kp) :
    ART P γ ks Q (.op ⟨d, none, .callv x as⟩ k) e σ := by
  have := h _ _ (fun _ _ h => h) (fun _ _ h => h)
  rw [art_callv]; exact this
theorem r_alloc {d : Option Nat} {zs : List AV} {k : RT} (h : ∀ l, σ l = none → ART P γ ks Q k (e.put d (.ptr l 0)) (σ.upd l (.cells zs))) : ART P γ ks Q (.op ⟨d, none, .alloc zs⟩ k) e σ := fun l hl => h l hl.1
theorem r_mkmap {d : Option Nat} {k : RT} (h : ∀ l, σ l = none → ART P γ ks Q k (e.put d (.map l)) (σ.upd l (.map [] .nil))) : ART P γ ks Q (.op ⟨d, none, .mkmap⟩ k) e σ := fun l hl => h l hl.1
theorem r_post1 {k : Nat} {t : List AV} {R : AEnd → AS → Prop} (h : R (.ret (t.getD k undefA)) σ) : APost P γ [.tmp k] R .ret ⟨t, []⟩ σ := by
  rw [post_ret1]; exact ⟨σ, SubD.refl γ σ, h⟩
theorem r_post0 {t : List AV} {R : AEnd → AS → Prop} (h : R (.ret (.tuple [])) σ) : APost P γ [] R .normal ⟨t, []⟩ σ := ⟨σ, SubD.refl γ σ, h⟩
theorem r_post0r {t : List AV} {R : AEnd → AS → Prop} (h : R (.ret (.tuple [])) σ) : APost P γ [] R .ret ⟨t, []⟩ σ := ⟨σ, SubD.refl γ σ, h⟩
theorem r_post2 {k j : Nat} {t : List AV} {R : AEnd → AS → Prop} (h : R (.ret (.tuple [t.getD k undefA, t.getD j undefA])) σ) : APost P γ [.tmp k, .tmp j] R .ret ⟨t, []⟩ σ := ⟨σ, SubD.refl γ σ, h⟩
theorem r_post3 {k j i : Nat} {t : List AV} {R : AEnd → AS → Prop} (h : R (.ret (.tuple [t.getD k undefA, t.getD j undefA, t.getD i undefA])) σ) : APost P γ [.tmp k, .tmp j, .tmp i] R .ret ⟨t, []⟩ σ := ⟨σ, SubD.refl γ σ, h⟩
theorem r_postp {r : List IRes} {t : List AV} {v : AV} {R : AEnd → AS → Prop} (h : R (.pan v) σ) : APost P γ r R (.pan v) ⟨t, []⟩ σ := ⟨σ, SubD.refl γ σ, h⟩
theorem asNat_nat {k : IntKind} {n : Nat} : asNat (.int k (n : Int)) = some n := by simp [asNat]
theorem asNat_0 {k : IntKind} : asNat (.int k 0) = some 0 := rfl
theorem asNat_1 {k : IntKind} : asNat (.int k 1) = some 1 := rfl
theorem asNat_2 {k : IntKind} : asNat (.int k 2) = some 2 := rfl
theorem asNat_3 {k : IntKind} : asNat (.int k 3) = some 3 := rfl
theorem asNat_4 {k : IntKind} : asNat (.int k 4) = some 4 := rfl
theorem wrap64 {n : Int} (h0 : -9223372036854775808 ≤ n) (h1 : n < 9223372036854775808) : IntKind.i64.wrap n = n := by
  simp [IntKind.wrap, IntKind.bits, IntKind.signed] <;> omega
theorem r_ln {I : Env → AS → Nat → Prop} {n : Nat} (m : Nat) (hm : m < n) (h : I e σ m) : loopQ I n Q .normal e σ := by
  unfold loopQ; exact ⟨m, hm, h⟩
/-- A contract that returns. -/
theorem callK_ret {f : Nat} {as : List AV} {K Kp : AV → AS → Prop} {v : AV} {σ' : AS} (hc : ∀ R : AEnd → AS → Prop, R (.ret v) σ' → ACall P γ f as σ R) (h : K v σ') : CallK P γ f as σ K Kp := hc _ h
end
attribute [irreducible] seqQ blkQ loopQ CallK
end Go.VS
