/- Quiet regions: what is drawn at the end is what was run. -/
import Derived.Test.YtnedikjioliodaaGreatDoorMc2
set_option linter.all false
namespace Go.AM
open Go
variable [Env]
/-! ### what a run in the text's order says of each operation -/
def stepM (k : DK) (m : Nat) : Nat := match k with | .e => m + 1 | _ => m
/-- one operation, at its place in the text -/
structure RecOk (call : CallF) (L : List H) (d : DOper) (t t' : TM) (h h' : H) (m m' : Nat) (v : AV) (skip : Bool) : Prop where
  next : ∀ dst g op k lo hi ns, d = .mk (.mk dst g op) k lo hi ns → t' = putD t dst v ∧ m' = stepM k m ∧ belowB h'.nextOf v = true ∧ h.nextOf ≤ h'.nextOf ∧
    ((wantG t g = some false ∧ skip = true ∧ v = .undef ∧ h' = h ∧ (match k with | .e => L[m + 1]? = some h' | _ => True)) ∨
     (wantG t g = some true ∧ skip = false ∧ (match k with
      | .q => h' = h ∧ quietV (restrict t ns) h op = some v ∧ ∀ (j : Nat) (G : H), lo ≤ j → j ≤ hi → L[j]? = some G → quietV (restrict t ns) G op = some v
      | .a => allocE t h op = .v v h'
      | .e => (∃ p, doE call (restrict t ns) h op = .ret v p h') ∧ L[m + 1]? = some h')))
theorem below_undef (B : Nat) : belowB B .undef = true := by unfold AV.undef; simp [belowB, belowBs]
theorem alloc_next {t : TM} {h h' : H} {op : AOp} {v : AV} (e : allocE t h op = .v v h') : ∃ tg z, op = .m1 (.alloc tg z) ∧ ∃ b, v = .ptr b 0 ∧ h.new (.row z.length tg (T.putList .lf 0 z) 0 0) = (b, h') ∧ b < h'.nextOf ∧ h.nextOf ≤ h'.nextOf ∧ (0 < h.nextOf → b = h.nextOf ∧ h'.nextOf = b + 1) := by
  unfold allocE at e
  split at e
  · rename_i tg z
    refine ⟨tg, z, rfl, ?_⟩
    have e : ptrOf (h.newRow tg z) = .v v h' := e
    unfold H.newRow at e
    cases hn : h.new (.row z.length tg (T.putList .lf 0 z) 0 0) with
    | mk b h1 =>
    rw [hn] at e
    obtain ⟨rfl, rfl⟩ := qr_v (show QR.v (.ptr b 0) h1 = .v v h' from e)
    refine ⟨b, rfl, rfl, ?_⟩
    cases h with
    | mk bl n d c =>
      cases n with
      | zero =>
        unfold H.new at hn
        injection hn with h1 h2
        subst h1; subst h2
        exact ⟨Nat.zero_lt_one, Nat.zero_le _, fun h => absurd h (Nat.lt_irrefl _)⟩
      | succ n =>
        unfold H.new at hn
        injection hn with h1 h2
        subst h1; subst h2
        exact ⟨Nat.lt_succ_self _, Nat.le_succ _, fun _ => ⟨rfl, rfl⟩⟩
  · simp at e
structure Trace (call : CallF) (ds : List DOper) (L : List H) where
  t : Nat → TM
  h : Nat → H
  m : Nat → Nat
  v : Nat → AV
  skip : Nat → Bool
  ok : ∀ i d, ds[i]? = some d → RecOk call L d (t i) (t (i + 1)) (h i) (h (i + 1)) (m i) (m (i + 1)) (v i) (skip i)
theorem beforeAll_ok {o : AOp} {t : TM} {v : AV} {lo : Nat} : ∀ (hs : List H) (m : Nat), hs.length = m + 1 → beforeAll o t v lo m hs = true → ∀ (j : Nat) (G : H), lo ≤ j → hs.reverse[j]? = some G → quietV t G o = some v
  | [], m, hl, _, _, _, _, _ => by simp at hl
  | h :: hs, m, hl, hb, j, G, hj, hG => by
    have hl : hs.length = m := by simpa using hl
    unfold beforeAll at hb
    rw [List.reverse_cons] at hG
    have hjm : j ≤ m := by
      have := (List.getElem?_eq_some_iff.1 hG).1
      simp at this; omega
    have hle : Nat.ble lo m = true := ble_iff.2 (Nat.le_trans hj hjm)
    rw [hle] at hb
    simp only [cond_true] at hb
    obtain ⟨h1, h2⟩ : eqOD (quietV t h o) (some v) = true ∧ beforeAll o t v lo (m - 1) hs = true := by
      cases he : eqOD (quietV t h o) (some v) with
      | true => rw [he] at hb; exact ⟨rfl, hb⟩
      | false => rw [he] at hb; simp at hb
    by_cases hjj : j = m
    · subst hjj
      rw [List.getElem?_append_right (by simp; omega)] at hG
      simp [hl] at hG
      subst hG
      exact eqOD_eq h1
    · have hlt : j < hs.reverse.length := by simp; omega
      rw [List.getElem?_append_left hlt] at hG
      refine beforeAll_ok hs (m - 1) (by omega) h2 j G hj hG
theorem againAll_ok {m : Nat} {h : H} : ∀ (qs : List QRec), againAll m h qs = true → ∀ o t v hi, QRec.mk o t v hi ∈ qs → m ≤ hi → quietV t h o = some v
  | [], _, _, _, _, _, hm, _ => by simp at hm
  | .mk o t v hi :: qs, ha, o', t', v', hi', hm, hle => by
    unfold againAll at ha
    rcases List.mem_cons.1 hm with e | hm
    · injection e with e1 e2 e3 e4
      subst e1; subst e2; subst e3; subst e4
      have : Nat.ble m hi' = true := ble_iff.2 hle
      rw [this] at ha
      simp only [cond_true] at ha
      cases he : eqOD (quietV t' h o') (some v') with
      | true => exact eqOD_eq he
      | false => rw [he] at ha; simp at ha
    · refine againAll_ok qs ?_ o' t' v' hi' hm hle
      cases hb : Nat.ble m hi with
      | true =>
        rw [hb] at ha
        simp only [cond_true] at ha
        cases he : eqOD (quietV t h o) (some v) with
        | true => rw [he] at ha; exact ha
        | false => rw [he] at ha; simp at ha
      | false => rw [hb] at ha; exact ha
/-- a run of a drawn region that ends as usual, told place by place -/
theorem trace_ex {call : CallF} : ∀ (ds : List DOper) (m : Nat) (hs : List H) (qs : List QRec) (t : TM) (f : Fr) (h : H) (tF : TM) (fF : Fr) (hF : H), hs.length = m + 1 → runDraw call ds m hs qs t f h = .normal tF fF hF →
    ∃ (ext : List H) (T : Trace call ds (hs.reverse ++ ext)), T.t 0 = t ∧ T.h 0 = h ∧ T.m 0 = m ∧ T.t ds.length = tF ∧ T.h ds.length = hF ∧ fF = f ∧
      ∀ o t v hi, QRec.mk o t v hi ∈ qs → ∀ (j : Nat) (G : H), m < j → j ≤ hi → (hs.reverse ++ ext)[j]? = some G → quietV t G o = some v
  | [], m, hs, qs, t, f, h, tF, fF, hF, hl, hr => by
    injection hr with e1 e2 e3
    subst e1; subst e2; subst e3
    refine ⟨[], ⟨fun _ => t, fun _ => h, fun _ => m, fun _ => .undef, fun _ => true, fun i d hd => by simp at hd⟩, rfl, rfl, rfl, rfl, rfl, rfl, ?_⟩
    intro o t v hi _ j G hj _ hG
    have := (List.getElem?_eq_some_iff.1 hG).1
    simp at this; omega
  | .mk (.mk d g op) k lo hi ns :: r, m, hs, qs, t, f, h, tF, fF, hF, hl, hr => by
    -- one place, and the rest
    have glue : ∀ (m' : Nat) (hs' : List H) (qs' : List QRec) (t' : TM) (h' : H) (v : AV) (sk : Bool), hs'.length = m' + 1 → runDraw call r m' hs' qs' t' f h' = .normal tF fF hF → (∃ e, hs'.reverse = hs.reverse ++ e) → m ≤ m' → (∀ x ∈ qs, x ∈ qs') →
        (∀ ext : List H, (∀ o t v hi, QRec.mk o t v hi ∈ qs' → ∀ (j : Nat) (G : H), m' < j → j ≤ hi → (hs'.reverse ++ ext)[j]? = some G → quietV t G o = some v) → RecOk call (hs'.reverse ++ ext) (.mk (.mk d g op) k lo hi ns) t t' h h' m m' v sk) →
        (∀ o t v hi, QRec.mk o t v hi ∈ qs → ∀ (j : Nat) (G : H), m < j → j ≤ m' → j ≤ hi → hs'.reverse[j]? = some G → quietV t G o = some v) →
        ∃ (ext : List H) (T : Trace call (.mk (.mk d g op) k lo hi ns :: r) (hs.reverse ++ ext)), T.t 0 = t ∧ T.h 0 = h ∧ T.m 0 = m ∧ T.t (r.length + 1) = tF ∧ T.h (r.length + 1) = hF ∧ fF = f ∧
          ∀ o t v hi, QRec.mk o t v hi ∈ qs → ∀ (j : Nat) (G : H), m < j → j ≤ hi → (hs.reverse ++ ext)[j]? = some G → quietV t G o = some v := by
      intro m' hs' qs' t' h' v sk hl' hr' he hmm hq hrec hold
      obtain ⟨ext, hT⟩ := trace_ex r m' hs' qs' t' f h' tF fF hF hl' hr'
      obtain ⟨e, he⟩ := he
      have heq : hs'.reverse ++ ext = hs.reverse ++ (e ++ ext) := by rw [he, List.append_assoc]
      have hrec := hrec ext
      have hsplit : ∀ (j : Nat) (G : H), j ≤ m' → (hs.reverse ++ (e ++ ext))[j]? = some G → hs'.reverse[j]? = some G := by
        intro j G hjm hG
        rw [← heq] at hG
        have hlt : j < hs'.reverse.length := by rw [List.length_reverse]; omega
        rwa [List.getElem?_append_left hlt] at hG
      rw [heq] at hT hrec
      obtain ⟨T, h1, h2, h3, h4, h5, h6, h7⟩ := hT
      refine ⟨e ++ ext, ⟨fun i => match i with | 0 => t | i + 1 => T.t i, fun i => match i with | 0 => h | i + 1 => T.h i, fun i => match i with | 0 => m | i + 1 => T.m i, fun i => match i with | 0 => v | i + 1 => T.v i, fun i => match i with | 0 => sk | i + 1 => T.skip i, ?_⟩, rfl, rfl, rfl, h4, h5, h6, ?_⟩
      · intro i dd hd
        cases i with
        | zero =>
          injection hd with hd; subst hd
          have := hrec h7
          show RecOk call _ _ t (T.t 0) h (T.h 0) m (T.m 0) v sk
          rw [h1, h2, h3]; exact this
        | succ i =>
          exact T.ok i dd (by simpa using hd)
      · intro o t v hi hm j G hj hji hG
        by_cases hjm : j ≤ m'
        · exact hold o t v hi hm j G hj hjm hji (hsplit j G hjm hG)
        · exact h7 o t v hi (hq _ hm) j G (by omega) hji hG
    have hold1 : ∀ h1, againAll (m + 1) h1 qs = true → ∀ o t v hi, QRec.mk o t v hi ∈ qs → ∀ (j : Nat) (G : H), m < j → j ≤ m + 1 → j ≤ hi → (h1 :: hs).reverse[j]? = some G → quietV t G o = some v := by
      intro h1 ha o t v hi hm j G hj hjm hji hG
      have hj : j = m + 1 := by omega
      subst hj
      have : (h1 :: hs).reverse[m + 1]? = some h1 := by simp [hl]
      rw [this] at hG
      injection hG with hG; subst hG
      exact againAll_ok qs ha o t v hi hm hji
    have hlast : ∀ (h1 : H) (ext : List H), ((h1 :: hs).reverse ++ ext)[m + 1]? = some h1 := by
      intro h1 ext; rw [List.getElem?_append_left (by simp [hl])]; simp [hl]
    unfold runDraw at hr
    cases hg : wantG t g with
    | none => rw [hg] at hr; simp at hr
    | some want =>
      rw [hg] at hr
      cases want with
      | false =>
        cases k with
        | e =>
          simp only at hr
          cases ha : againAll (m + 1) h qs with
          | false => rw [ha] at hr; simp at hr
          | true =>
          rw [ha] at hr
          refine glue (m + 1) (h :: hs) qs _ h .undef true (by simp [hl]) hr ⟨[h], by simp⟩ (Nat.le_succ m) (fun _ hx => hx) ?_ (hold1 h ha)
          intro ext _
          refine ⟨fun dst g' op' k' lo' hi' ns' e => ?_⟩
          injection e with e1 e2 e3 e4 e5; injection e1 with e1 e6 e7
          subst e1; subst e2; subst e6
          exact ⟨rfl, rfl, below_undef _, Nat.le_refl _, .inl ⟨hg, rfl, rfl, rfl, hlast h ext⟩⟩
        | q =>
          simp only at hr
          refine glue m hs qs _ h .undef true hl hr ⟨[], by simp⟩ (Nat.le_refl m) (fun _ hx => hx) ?_ ?_
          · intro ext _
            refine ⟨fun dst g' op' k' lo' hi' ns' e => ?_⟩
            injection e with e1 e2 e3 e4 e5; injection e1 with e1 e6 e7
            subst e1; subst e2; subst e6
            exact ⟨rfl, rfl, below_undef _, Nat.le_refl _, .inl ⟨hg, rfl, rfl, rfl, trivial⟩⟩
          · intro o t v hi _ j G hj hjm _ _; omega
        | a =>
          simp only at hr
          refine glue m hs qs _ h .undef true hl hr ⟨[], by simp⟩ (Nat.le_refl m) (fun _ hx => hx) ?_ ?_
          · intro ext _
            refine ⟨fun dst g' op' k' lo' hi' ns' e => ?_⟩
            injection e with e1 e2 e3 e4 e5; injection e1 with e1 e6 e7
            subst e1; subst e2; subst e6
            exact ⟨rfl, rfl, below_undef _, Nat.le_refl _, .inl ⟨hg, rfl, rfl, rfl, trivial⟩⟩
          · intro o t v hi _ j G hj hjm _ _; omega
      | true =>
        cases k with
        | q =>
          simp only at hr
          cases hq : quietV (restrict t ns) h op with
          | none => rw [hq] at hr; simp at hr
          | some v =>
          rw [hq] at hr
          simp only at hr
          cases hb1 : belowH h v with
          | false => rw [hb1] at hr; simp at hr
          | true =>
          cases hb2 : beforeAll op (restrict t ns) v lo m hs with
          | false => rw [hb1, hb2] at hr; simp at hr
          | true =>
          rw [hb1, hb2] at hr
          simp only [Bool.and_self, cond_true] at hr
          refine glue m hs (.mk op (restrict t ns) v hi :: qs) _ h v false hl hr ⟨[], by simp⟩ (Nat.le_refl m) (fun _ hx => List.mem_cons_of_mem _ hx) ?_ ?_
          · intro ext hext
            refine ⟨fun dst g' op' k' lo' hi' ns' e => ?_⟩
            injection e with e1 e2 e3 e4 e5; injection e1 with e1 e6 e7
            subst e1; subst e2; subst e3; subst e4; subst e5; subst e6; subst e7
            refine ⟨rfl, rfl, ?_, Nat.le_refl _, .inr ⟨hg, rfl, rfl, hq, ?_⟩⟩
            · cases h; exact hb1
            · intro j G hj1 hj2 hG
              by_cases hjm : j ≤ m
              · have hlt : j < hs.reverse.length := by rw [List.length_reverse]; omega
                rw [List.getElem?_append_left hlt] at hG
                exact beforeAll_ok hs m hl hb2 j G hj1 hG
              · exact hext op (restrict t ns) v hi (List.mem_cons_self ..) j G (by omega) hj2 hG
          · intro o t v hi _ j G hj hjm _ _; omega
        | a =>
          simp only at hr
          cases hq : allocE t h op with
          | no => rw [hq] at hr; simp at hr
          | v v h1 =>
          rw [hq] at hr
          simp only at hr
          obtain ⟨_, z, _, b, rfl, _, h3, h4, _⟩ := alloc_next hq
          refine glue m hs qs _ h1 (.ptr b 0) false hl hr ⟨[], by simp⟩ (Nat.le_refl m) (fun _ hx => hx) ?_ ?_
          · intro ext _
            refine ⟨fun dst g' op' k' lo' hi' ns' e => ?_⟩
            injection e with e1 e2 e3 e4 e5; injection e1 with e1 e6 e7
            subst e1; subst e2; subst e6; subst e7
            exact ⟨rfl, rfl, by unfold belowB; exact ble_iff.2 h3, h4, .inr ⟨hg, rfl, hq⟩⟩
          · intro o t v hi _ j G hj hjm _ _; omega
        | e =>
          simp only at hr
          cases hq : doE call (restrict t ns) h op with
          | stuck => rw [hq] at hr; simp at hr
          | panic v p h1 => rw [hq] at hr; simp at hr
          | ret v p h1 =>
          rw [hq] at hr
          simp only at hr
          cases hb1 : belowH h1 v with
          | false => rw [hb1] at hr; simp at hr
          | true =>
          cases hb2 : nextLe h h1 with
          | false => rw [hb1, hb2] at hr; simp at hr
          | true =>
          cases ha : againAll (m + 1) h1 qs with
          | false => rw [hb1, hb2, ha] at hr; simp at hr
          | true =>
          rw [hb1, hb2, ha] at hr
          simp only [Bool.and_self, cond_true] at hr
          refine glue (m + 1) (h1 :: hs) qs _ h1 v false (by simp [hl]) hr ⟨[h1], by simp⟩ (Nat.le_succ m) (fun _ hx => hx) ?_ (hold1 h1 ha)
          intro ext _
          refine ⟨fun dst g' op' k' lo' hi' ns' e => ?_⟩
          injection e with e1 e2 e3 e4 e5; injection e1 with e1 e6 e7
          subst e1; subst e2; subst e5; subst e6; subst e7
          refine ⟨rfl, rfl, ?_, ?_, .inr ⟨hg, rfl, ⟨p, hq⟩, hlast h1 ext⟩⟩
          · cases h1; exact hb1
          · cases h; cases h1; exact ble_iff.1 hb2
/-- a run of a drawn region that does not end as usual is none -/
theorem runDraw_normal {call : CallF} : ∀ (ds : List DOper) (m : Nat) (hs : List H) (qs : List QRec) (t : TM) (f : Fr) (h : H), runDraw call ds m hs qs t f h = .stuck ∨ ∃ tF fF hF, runDraw call ds m hs qs t f h = .normal tF fF hF
  | [], m, hs, qs, t, f, h => .inr ⟨t, f, h, rfl⟩
  | .mk (.mk d g op) k lo hi ns :: r, m, hs, qs, t, f, h => by
    have ih := runDraw_normal (call := call) r
    unfold runDraw
    cases wantG t g with
    | none => exact .inl rfl
    | some want =>
      have cnd : ∀ (b : Bool) (x : R), (x = .stuck ∨ ∃ tF fF hF, x = .normal tF fF hF) → (cond b x .stuck = .stuck ∨ ∃ tF fF hF, cond b x .stuck = .normal tF fF hF) := by
        intro b x hx; cases b
        · exact .inl rfl
        · exact hx
      cases want with
      | false =>
        cases k
        · exact ih _ _ _ _ _ _
        · exact cnd _ _ (ih _ _ _ _ _ _)
        · exact ih _ _ _ _ _ _
      | true =>
        cases k
        · simp only
          cases quietV (restrict t ns) h op with
          | none => exact .inl rfl
          | some v => exact cnd _ _ (ih _ _ _ _ _ _)
        · simp only
          cases doE call (restrict t ns) h op with
          | ret v p h1 => exact cnd _ _ (ih _ _ _ _ _ _)
          | panic v p h1 => exact .inl rfl
          | stuck => exact .inl rfl
        · simp only
          cases allocE t h op with
          | no => exact .inl rfl
          | v v h1 => exact ih _ _ _ _ _ _
end Go.AM
namespace Go.AM
open Go
variable [Env]
/-! ### what is known of a region that draws its order, from its text alone -/
theorem memNat_iff {n : Nat} : ∀ {l : List Nat}, memNat n l = true ↔ n ∈ l
  | [] => by simp [memNat]
  | m :: r => by
    unfold memNat
    rw [List.mem_cons]
    cases h : Nat.beq n m with
    | true => simp only [cond_true, true_iff]; exact .inl (beq_iff.1 h)
    | false =>
      simp only [cond_false]
      rw [memNat_iff]
      constructor
      · exact .inr
      · rintro (e | e)
        · rw [e, beq_iff.2 rfl] at h; simp at h
        · exact e
def ecount (kind : Nat → DK) : Nat → Nat
  | 0 => 0
  | p + 1 => stepM (kind p) (ecount kind p)
theorem coper_mk (P : Program) (ops : Array Oper) (o : Oper) : ∃ g q, coper P ops o = .mk o.dst g q := by
  unfold coper
  cases o.guard with
  | none => exact ⟨_, _, rfl⟩
  | some jw =>
    obtain ⟨j, w⟩ := jw
    simp only
    cases (ops[j]?).bind (·.dst) with
    | none => exact ⟨_, _, rfl⟩
    | some d => exact ⟨_, _, rfl⟩
structure RegOk (P : Program) (ops : Array Oper) (ds : List DOper) (bs : Nat → List Nat) (kind : Nat → DK) : Prop where
  len : ds.length = ops.size
  place : ∀ i o, ops[i]? = some o → ∃ lo hi, ds[i]? = some (.mk (coper P ops o) (kind i) lo hi (namesOf o)) ∧
    (∀ p, p ≤ ops.size → (∀ e, e < ops.size → kind e = .e → e ∈ bs i → e < p) → lo ≤ ecount kind p) ∧
    (∀ p, p ≤ ops.size → (∀ e, e < p → kind e = .e → i ∉ bs e) → ecount kind p ≤ hi)
  quiet : ∀ i o, ops[i]? = some o → kind i = .q → quietOp (opOf (coper P ops o)) = true
  after : ∀ i o, ops[i]? = some o → ∀ e ∈ o.after.toList, Region.binds .any e = true → e.on ∈ bs i
  from_ : ∀ i o, ops[i]? = some o → ∀ x ∈ bs i, ∃ e ∈ o.after.toList, Region.binds .any e = true ∧ (x = e.on ∨ x ∈ bs e.on)
  above : ∀ i x, x ∈ bs i → x < i
  chain : ∀ i j, i < ops.size → j < ops.size → kind i = .e → kind j = .e → i < j → i ∈ bs j
  floats : ∀ a e, a < ops.size → e < ops.size → kind a = .a → kind e = .e → a < e → a ∈ bs e
  temps : ∀ i o, ops[i]? = some o → ∀ n, n ∈ namesOf o ++ (guardOf (coper P ops o) ++ dstList (coper P ops o)) → ∀ w o', ops[w]? = some o' → o'.dst = some n → w = i ∨ w ∈ bs i ∨ i ∈ bs w

theorem beforeGo_ext : ∀ (l : List Oper) (acc : List (List Nat)), ∃ ext, beforeGo l acc = acc.reverse ++ ext ∧ ext.length = l.length
  | [], acc => ⟨[], by simp [beforeGo], rfl⟩
  | o :: r, acc => by
    obtain ⟨ext, h1, h2⟩ := beforeGo_ext r ((o.after.toList.flatMap fun e => bif Region.binds .any e then e.on :: (acc.reverse.getD e.on []) else []) :: acc)
    refine ⟨(o.after.toList.flatMap fun e => bif Region.binds .any e then e.on :: (acc.reverse.getD e.on []) else []) :: ext, ?_, by simp [h2]⟩
    show beforeGo r _ = _
    rw [h1, List.reverse_cons, List.append_assoc]
    rfl
theorem beforeGo_at : ∀ (l : List Oper) (acc : List (List Nat)) (i : Nat) (o : Oper), l[i]? = some o →
    (beforeGo l acc).getD (acc.length + i) [] = o.after.toList.flatMap fun e => bif Region.binds .any e then e.on :: (((beforeGo l acc).take (acc.length + i)).getD e.on []) else []
  | [], _, i, o, h => by simp at h
  | o :: r, acc, 0, o', h => by
    injection h with h; subst h
    obtain ⟨ext, h1, h2⟩ := beforeGo_ext r ((o.after.toList.flatMap fun e => bif Region.binds .any e then e.on :: (acc.reverse.getD e.on []) else []) :: acc)
    show (beforeGo r _).getD (acc.length + 0) [] = o.after.toList.flatMap fun e => bif Region.binds .any e then e.on :: (((beforeGo r _).take (acc.length + 0)).getD e.on []) else []
    rw [h1, List.reverse_cons, List.append_assoc, Nat.add_zero]
    have e1 : (acc.reverse ++ ([o.after.toList.flatMap fun e => bif Region.binds .any e then e.on :: (acc.reverse.getD e.on []) else []] ++ ext)).getD acc.length [] = o.after.toList.flatMap fun e => bif Region.binds .any e then e.on :: (acc.reverse.getD e.on []) else [] := by
      rw [List.getD_eq_getElem?_getD, List.getElem?_append_right (by simp)]
      simp
    have e2 : (acc.reverse ++ ([o.after.toList.flatMap fun e => bif Region.binds .any e then e.on :: (acc.reverse.getD e.on []) else []] ++ ext)).take acc.length = acc.reverse := by
      rw [List.take_append_of_le_length (by simp)]
      rw [List.take_of_length_le (by simp)]
    rw [e1, e2]
  | o :: r, acc, i + 1, o', h => by
    have := beforeGo_at r ((o.after.toList.flatMap fun e => bif Region.binds .any e then e.on :: (acc.reverse.getD e.on []) else []) :: acc) i o' (by simpa using h)
    rw [List.length_cons, show acc.length + 1 + i = acc.length + (i + 1) from by omega] at this
    exact this
theorem aboveOk_at : ∀ (L : List (List Nat)) (k : Nat), aboveOk L k = true → ∀ i x, x ∈ L.getD i [] → x < k + i
  | [], _, _, i, x, hx => by simp at hx
  | l :: r, k, h, i, x, hx => by
    unfold aboveOk at h
    cases hl : (l.all fun j => Nat.ble (Nat.succ j) k) with
    | false => rw [hl] at h; simp at h
    | true =>
      rw [hl] at h
      simp only [cond_true] at h
      cases i with
      | zero =>
        rw [List.all_eq_true] at hl
        exact ble_iff.1 (hl x (by simpa using hx))
      | succ i =>
        have := aboveOk_at r (k + 1) h i x (by simpa using hx)
        omega
theorem loudPlaces_mem : ∀ (os : List AOper) (k j : Nat), j ∈ loudPlaces os k ↔ ∃ i o, j = k + i ∧ os[i]? = some o ∧ quietOp (opOf o) = false
  | [], k, j => by simp [loudPlaces]
  | o :: r, k, j => by
    have ih := loudPlaces_mem r (k + 1) j
    have split : (∃ i o', j = k + i ∧ (o :: r)[i]? = some o' ∧ quietOp (opOf o') = false) ↔ (j = k ∧ quietOp (opOf o) = false) ∨ ∃ i o', j = k + 1 + i ∧ r[i]? = some o' ∧ quietOp (opOf o') = false := by
      constructor
      · rintro ⟨i, o', h1, h2, h3⟩
        cases i with
        | zero => injection h2 with h2; subst h2; exact .inl ⟨h1, h3⟩
        | succ i => exact .inr ⟨i, o', by omega, by simpa using h2, h3⟩
      · rintro (⟨h1, h2⟩ | ⟨i, o', h1, h2, h3⟩)
        · exact ⟨0, o, h1, rfl, h2⟩
        · exact ⟨i + 1, o', by omega, by simpa using h2, h3⟩
    rw [split]
    unfold loudPlaces
    cases hq : quietOp (opOf o) with
    | true => simp only [cond_true, ih]; simp
    | false => simp only [cond_false, List.mem_cons, ih]; simp
theorem loudPlaces_nodup : ∀ (os : List AOper) (k : Nat), (loudPlaces os k).Nodup
  | [], k => by simp [loudPlaces]
  | o :: r, k => by
    unfold loudPlaces
    cases hq : quietOp (opOf o) with
    | true => simp only [cond_true]; exact loudPlaces_nodup r (k + 1)
    | false =>
      simp only [cond_false, List.nodup_cons]
      refine ⟨?_, loudPlaces_nodup r (k + 1)⟩
      intro hm
      obtain ⟨i, _, h, _⟩ := (loudPlaces_mem r (k + 1) k).1 hm
      omega
theorem countP_succ (p : Nat) : ∀ (l : List Nat), l.countP (fun e => decide (e < p + 1)) = l.countP (fun e => decide (e < p)) + l.count p
  | [] => rfl
  | a :: l => by
    have ih := countP_succ p l
    simp only [List.countP_cons, List.count_cons, ih]
    by_cases h1 : a < p
    · have : ¬ a = p := by omega
      simp [h1, this, Nat.lt_succ_of_lt h1]; omega
    · by_cases h2 : a = p
      · subst h2; simp; omega
      · have : ¬ a < p + 1 := by omega
        simp [h1, h2, this]
theorem count_e {es : List Nat} {kind : Nat → DK} {N : Nat} (hn : es.Nodup) (hm : ∀ e, e ∈ es ↔ e < N ∧ kind e = .e) : ∀ p, p ≤ N → es.countP (fun e => decide (e < p)) = ecount kind p
  | 0, _ => by simp [ecount]
  | p + 1, hp => by
    rw [countP_succ, count_e hn hm p (by omega)]
    show _ = stepM (kind p) (ecount kind p)
    cases hk : kind p with
    | e =>
      rw [hn.count, if_pos ((hm p).2 ⟨hp, hk⟩)]; rfl
    | q => rw [List.count_eq_zero_of_not_mem (fun h => by have := ((hm p).1 h).2; rw [hk] at this; simp at this)]; rfl
    | a => rw [List.count_eq_zero_of_not_mem (fun h => by have := ((hm p).1 h).2; rw [hk] at this; simp at this)]; rfl
theorem orderedTo_at {bs : List (List Nat)} {i n : Nat} : ∀ (os : List AOper) (k : Nat), orderedTo bs i n os k = true → ∀ w o, os[w]? = some o → dstIs n o = true → comparable bs i (k + w) = true
  | [], _, _, w, o, h, _ => by simp at h
  | a :: r, k, h, w, o, ho, hd => by
    unfold orderedTo at h
    cases hc : (and (dstIs n a) (!(comparable bs i k))) with
    | true => rw [hc] at h; simp at h
    | false =>
      rw [hc] at h
      simp only [cond_false] at h
      cases w with
      | zero =>
        injection ho with ho; subst ho
        rw [hd] at hc
        simpa using hc
      | succ w =>
        have := orderedTo_at r (k + 1) h w o (by simpa using ho) hd
        rwa [show k + 1 + w = k + (w + 1) from by omega] at this
theorem tmpsOk_at {bs : List (List Nat)} {all : List AOper} : ∀ (l : List Oper) (os : List AOper) (k : Nat), tmpsOk bs all l os k = true → ∀ i o p, l[i]? = some o → os[i]? = some p →
    ∀ n, n ∈ namesOf o ++ (guardOf p ++ dstList p) → orderedTo bs (k + i) n all 0 = true
  | [], _, _, _, i, o, p, h, _, _, _ => by simp at h
  | _ :: _, [], _, _, i, o, p, _, h, _, _ => by simp at h
  | a :: l, c :: os, k, h, i, o, p, ho, hp, n, hn => by
    unfold tmpsOk at h
    cases hc : ((namesOf a ++ (guardOf c ++ dstList c)).all fun n => orderedTo bs k n all 0) with
    | false => rw [hc] at h; simp at h
    | true =>
      rw [hc] at h
      simp only [cond_true] at h
      cases i with
      | zero =>
        injection ho with ho; subst ho
        injection hp with hp; subst hp
        rw [List.all_eq_true] at hc
        exact hc n hn
      | succ i =>
        have := tmpsOk_at l os (k + 1) h i o p (by simpa using ho) (by simpa using hp) n hn
        rwa [show k + 1 + i = k + (i + 1) from by omega] at this
theorem dopers_at {bs : List (List Nat)} {all : List AOper} {loud es : List Nat} : ∀ (l : List Oper) (os : List AOper) (k i : Nat) (o : Oper) (p : AOper), l[i]? = some o → os[i]? = some p →
    (dopers bs all loud es l os k)[i]? = some (.mk p (kindOf bs all loud (k + i)) (countB (fun e => memNat e (bs.getD (k + i) [])) es) (countB (fun e => !memNat (k + i) (bs.getD e [])) es) (namesOf o))
  | [], _, _, i, o, p, h, _ => by simp at h
  | _ :: _, [], _, i, o, p, _, h => by simp at h
  | a :: l, c :: os, k, 0, o, p, ho, hp => by
    injection ho with ho; subst ho
    injection hp with hp; subst hp
    rfl
  | a :: l, c :: os, k, i + 1, o, p, ho, hp => by
    have := dopers_at (bs := bs) (all := all) (loud := loud) (es := es) l os (k + 1) i o p (by simpa using ho) (by simpa using hp)
    rw [show k + 1 + i = k + (i + 1) from by omega] at this
    exact this
theorem dopers_len {bs : List (List Nat)} {all : List AOper} {loud es : List Nat} : ∀ (l : List Oper) (os : List AOper) (k : Nat), os.length = l.length → (dopers bs all loud es l os k).length = l.length
  | [], [], _, _ => rfl
  | [], _ :: _, _, h => by simp at h
  | _ :: _, [], _, h => by simp at h
  | a :: l, c :: os, k, h => by
    show (_ :: dopers bs all loud es l os (k + 1)).length = _
    rw [List.length_cons, List.length_cons, dopers_len l os (k + 1) (by simpa using h)]
theorem comparable_iff {bs : List (List Nat)} {i j : Nat} : comparable bs i j = true ↔ i = j ∨ i ∈ bs.getD j [] ∨ j ∈ bs.getD i [] := by
  unfold comparable
  rw [Bool.or_eq_true, Bool.or_eq_true, memNat_iff, memNat_iff, beq_iff, or_assoc]
theorem quiet_kind {bs : List (List Nat)} {os : List AOper} {loud : List Nat} {i : Nat} : kindOf bs os loud i = .q → quietOp (opOf (os.getD i (.mk none none .bad))) = true := by
  unfold kindOf
  cases quietOp (opOf (os.getD i (.mk none none .bad))) with
  | true => intro _; rfl
  | false =>
    simp only [cond_false]
    cases floats bs os loud i <;> simp
theorem regOk_of {P : Program} {ops : Array Oper} {ds : List DOper} (e : cdraw ops.toList (ops.toList.map (coper P ops)) = .draw ds) : ∃ bs kind, RegOk P ops ds bs kind := by
  unfold cdraw at e
  simp only at e
  generalize hbs : beforeGo ops.toList [] = bs at e
  generalize hos : ops.toList.map (coper P ops) = os at e
  generalize hld : loudPlaces os 0 = loud at e
  generalize hes : loud.filter (fun i => isE (kindOf bs os loud i)) = es at e
  cases hc : (drawOk bs loud es && (tmpsOk bs os ops.toList os 0 && aboveOk bs 0)) with
  | false => rw [hc] at e; simp at e
  | true =>
  rw [hc] at e
  simp only [cond_true] at e
  injection e with e
  rw [Bool.and_eq_true, Bool.and_eq_true] at hc
  obtain ⟨hdr, htm, hab⟩ := hc
  have hosl : os.length = ops.toList.length := by rw [← hos]; simp
  have hosAt : ∀ (i : Nat) (o : Oper), ops[i]? = some o → os[i]? = some (coper P ops o) := by
    intro i o ho; rw [← hos]; simp [ho]
  have hlist : ∀ (i : Nat) (o : Oper), ops[i]? = some o → ops.toList[i]? = some o := by intro i o ho; simpa using ho
  have hkE : ∀ x, isE x = true ↔ x = .e := by intro x; cases x <;> simp [isE]
  have hl2 : ∀ x, x ∈ loud ↔ ∃ i o, x = 0 + i ∧ os[i]? = some o ∧ quietOp (opOf o) = false := by intro x; rw [← hld]; exact loudPlaces_mem os 0 x
  have hesm : ∀ x, x ∈ es ↔ x < ops.size ∧ kindOf bs os loud x = .e := by
    intro x
    rw [← hes, List.mem_filter, hkE, hl2]
    constructor
    · rintro ⟨⟨i, o, h1, h2, _⟩, h3⟩
      have hlt := (List.getElem?_eq_some_iff.1 h2).1
      refine ⟨?_, h3⟩
      rw [hosl] at hlt; simp at hlt; omega
    · rintro ⟨h1, h2⟩
      have hlt : x < os.length := by rw [hosl]; simpa using h1
      refine ⟨⟨x, os[x], by omega, List.getElem?_eq_getElem hlt, ?_⟩, h2⟩
      unfold kindOf at h2
      rw [List.getD_eq_getElem?_getD, List.getElem?_eq_getElem hlt, Option.getD_some] at h2
      cases hq : quietOp (opOf os[x]) with
      | false => rfl
      | true => rw [hq] at h2; simp at h2
  have hloud : ∀ x, x < ops.size → kindOf bs os loud x ≠ .q → x ∈ loud := by
    intro x h1 h2
    have hlt : x < os.length := by rw [hosl]; simpa using h1
    rw [hl2]
    refine ⟨x, os[x], by omega, List.getElem?_eq_getElem hlt, ?_⟩
    cases hq : quietOp (opOf os[x]) with
    | false => rfl
    | true =>
      exfalso; apply h2
      unfold kindOf
      rw [List.getD_eq_getElem?_getD, List.getElem?_eq_getElem hlt, Option.getD_some, hq]
      rfl
  have hnod : es.Nodup := by rw [← hes, ← hld]; exact (loudPlaces_nodup os 0).filter _
  have hcount := count_e (kind := kindOf bs os loud) hnod hesm
  unfold drawOk at hdr
  rw [Bool.and_eq_true, List.all_eq_true, List.all_eq_true] at hdr
  obtain ⟨hd1, hd2⟩ := hdr
  have habv : ∀ i x, x ∈ bs.getD i [] → x < i := by
    intro i x hx
    have := aboveOk_at bs 0 hab i x hx
    omega
  have hbAt : ∀ (i : Nat) (o : Oper), ops[i]? = some o → bs.getD i [] = o.after.toList.flatMap fun e => bif Region.binds .any e then e.on :: ((bs.take i).getD e.on []) else [] := by
    intro i o ho
    have := beforeGo_at ops.toList [] i o (hlist i o ho)
    rw [hbs] at this
    simpa using this
  refine ⟨fun i => bs.getD i [], kindOf bs os loud, ?_, ?_, ?_, ?_, ?_, ?_, ?_, ?_, ?_⟩
  · rw [← e, dopers_len _ _ _ hosl]; simp
  · intro i o ho
    have hd := dopers_at (bs := bs) (all := os) (loud := loud) (es := es) ops.toList os 0 i o _ (hlist i o ho) (hosAt i o ho)
    rw [e, Nat.zero_add] at hd
    refine ⟨_, _, hd, ?_, ?_⟩
    · intro p hp h
      rw [← hcount p hp]
      unfold countB
      rw [← List.countP_eq_length_filter]
      refine List.countP_mono_left fun x hx hx' => ?_
      have := (hesm x).1 hx
      simpa using h x this.1 this.2 (memNat_iff.1 hx')
    · intro p hp h
      rw [← hcount p hp]
      unfold countB
      rw [← List.countP_eq_length_filter]
      refine List.countP_mono_left fun x hx hx' => ?_
      have := (hesm x).1 hx
      have hx' : x < p := by simpa using hx'
      have hni := h x hx' this.2
      cases hm : memNat i (bs.getD x []) with
      | false => rfl
      | true => exact absurd (memNat_iff.1 hm) hni
  · intro i o ho hk
    have := quiet_kind hk
    rwa [List.getD_eq_getElem?_getD, hosAt i o ho, Option.getD_some] at this
  · intro i o ho x hx hb
    show x.on ∈ bs.getD i []
    rw [hbAt i o ho, List.mem_flatMap]
    exact ⟨x, hx, by rw [hb]; simp⟩
  · intro i o ho x hx
    have hx : x ∈ bs.getD i [] := hx
    rw [hbAt i o ho, List.mem_flatMap] at hx
    obtain ⟨y, hy, hx⟩ := hx
    cases hb : Region.binds .any y with
    | false => rw [hb] at hx; simp at hx
    | true =>
      rw [hb] at hx
      simp only [cond_true, List.mem_cons] at hx
      refine ⟨y, hy, hb, ?_⟩
      rcases hx with hx | hx
      · exact .inl hx
      · right
        show x ∈ bs.getD y.on []
        by_cases hlt : y.on < i
        · rw [List.getD_eq_getElem?_getD, List.getElem?_take, if_pos hlt, ← List.getD_eq_getElem?_getD] at hx
          exact hx
        · rw [List.getD_eq_getElem?_getD, List.getElem?_take, if_neg hlt] at hx
          simp at hx
  · exact habv
  · intro i j hi hj hki hkj hij
    have := hd1 i ((hesm i).2 ⟨hi, hki⟩)
    rw [List.all_eq_true] at this
    rcases comparable_iff.1 (this j ((hesm j).2 ⟨hj, hkj⟩)) with h | h | h
    · omega
    · exact h
    · have := habv i j h; omega
  · intro a x ha hx hka hkx hax
    have := hd2 a (hloud a ha (by rw [hka]; simp))
    rw [Bool.or_eq_true, memNat_iff] at this
    rcases this with h | h
    · have := ((hesm a).1 h).2; rw [hka] at this; simp at this
    · rw [List.all_eq_true] at h
      have := h x ((hesm x).2 ⟨hx, hkx⟩)
      rw [Bool.or_eq_true, memNat_iff] at this
      rcases this with h | h
      · exact h
      · have := ble_iff.1 h; omega
  · intro i o ho n hn w o' ho' hd
    have := tmpsOk_at ops.toList os 0 htm i o _ (hlist i o ho) (hosAt i o ho) n hn
    rw [Nat.zero_add] at this
    have hdi : dstIs n (coper P ops o') = true := by
      obtain ⟨g, q, hg⟩ := coper_mk P ops o'
      rw [hg, hd]
      exact beq_iff.2 rfl
    have := orderedTo_at os 0 this w _ (hosAt w o' ho') hdi
    rw [Nat.zero_add] at this
    rcases comparable_iff.1 this with h | h | h
    · exact .inl h.symm
    · exact .inr (.inr h)
    · exact .inr (.inl h)
end Go.AM
namespace Go.AM
open Go
variable [Env]
section
variable {P : Program} {r : Rho} {w : World} {h h' : H} {t : TM} {ρ : Operand → Value} {z : AV} {q : AOp}
/-! ### what only reads leaves the world as it is -/
theorem gives_exec {s : Sem Value} (g : Gives P r w s z) : ValueOf P r w (do pure (Next.value (← s))) z := by
  obtain ⟨v, h1, h2⟩ := g
  exact ⟨v, by rw [Sem.run_bind, h1]; rfl, h2⟩
theorem builtin_quiet (hE : EnvR r t ρ) (hr : Rel P r h w) (b : Builtin) (ts : Array TypeId) (args : Array Operand) (ty : TypeId) (cs : Array Bool)
    (hqq : quietOp (cBuiltin P b ts (args.toList.map opd)) = true) (e : memQ t h (cBuiltin P b ts (args.toList.map opd)) = .v z h') : ValueOf P r w (builtin b ts ty cs (args.map ρ)) z := by
  have hb := memQ_bad e
  generalize hq : cBuiltin P b ts (args.toList.map opd) = q at e hb hqq
  have a0 : ∀ {x : AOpd} {l : List AOpd}, args.toList.map opd = x :: l → ∃ o, x = opd o ∧ (args.map ρ)[0]? = some (ρ o) := by
    intro x l hl
    obtain ⟨o, _, h2, h3⟩ := arg_at (ρ := ρ) (l := l) args (i := 0) (a := x) (by rw [hl]; rfl)
    exact ⟨o, h2, h3⟩
  have a1 : ∀ {x y : AOpd} {l : List AOpd}, args.toList.map opd = x :: y :: l → ∃ o, y = opd o ∧ (args.map ρ)[1]? = some (ρ o) := by
    intro x y l hl
    obtain ⟨o, _, h2, h3⟩ := arg_at (ρ := ρ) (l := l) args (i := 1) (a := y) (by rw [hl]; rfl)
    exact ⟨o, h2, h3⟩
  unfold cBuiltin at hq
  split at hq
  · rename_i s x ta tb tl e1 e2
    obtain ⟨o1, rfl, g1⟩ := a0 e1
    obtain ⟨o2, rfl, g2⟩ := a1 e1
    obtain ⟨n, m, tg, rfl⟩ := form_append hq hb
    simp [quietOp] at hqq
  · rename_i s x ta tl e1 e2
    obtain ⟨o1, rfl, g1⟩ := a0 e1
    obtain ⟨o2, rfl, g2⟩ := a1 e1
    obtain ⟨n, rfl⟩ := form_copy hq hb
    simp [quietOp] at hqq
  · rename_i x ta tl e1 e2
    obtain ⟨o1, rfl, g1⟩ := a0 e1
    obtain ⟨n, rfl⟩ := form_clear hq hb
    simp [quietOp] at hqq
  · rename_i x ta tl e1 e2
    obtain ⟨o1, rfl, g1⟩ := a0 e1
    rcases form_len hq hb with ⟨k, rfl⟩ | ⟨p, rfl⟩
    · exact gives_exec (len_ok hr (hE o1) hq e ts (args.map ρ) (ty_at e2 0) g1 ty).2
    · simp [memQ] at e
  · subst hq; simp [memQ] at e
  · subst hq; simp [memQ] at e
  · rename_i m k ta tl e1 e2
    obtain ⟨o1, rfl, g1⟩ := a0 e1
    obtain ⟨o2, rfl, g2⟩ := a1 e1
    obtain ⟨fk, rfl⟩ := form_delete hq hb
    simp [quietOp] at hqq
  · subst hq; simp [memQ] at e
  · exact absurd hq.symm hb

theorem quiet_mem (hE : EnvR r t ρ) (hr : Rel P r h w) (o : Oper) (hqq : quietOp (cop P o.op) = true) (e : memQ t h (cop P o.op) = .v z h') : ValueOf P r w (execOp ρ o) z := by
  obtain ⟨dst, op, type, pos, after, guard⟩ := o
  simp only at e hqq
  have hb := memQ_bad e
  generalize hq : cop P op = q at e hb hqq
  cases op with
  | alloc ty =>
    obtain ⟨i, hi, hq⟩ := withT_eq (show (withT P ty fun i => zeroI i fun z => .m1 (.alloc (tagA ty) z.cells)) = q from hq) hb
    obtain ⟨zv, zx, hz, hzx, rfl⟩ := zeroI_eq hq hb
    simp [quietOp] at hqq
  | box ty x =>
    have hq : AOp.m1 (.box (opd x)) = q := hq
    subst hq
    simp [quietOp] at hqq
  | buildSlice ty n ps =>
    have hq : cBuildSlice P ty n ps = q := hq
    obtain ⟨zl, m, l, rfl⟩ := form_buildSlice hq hb
    simp [quietOp] at hqq
  | load ty a =>
    obtain ⟨i, hi, hq⟩ := withT_eq (show (withT P ty fun i => withU P ty fun d => .m1 (.load i.size (aggD d) (opd a))) = q from hq) hb
    obtain ⟨d, hd, rfl⟩ := withU_eq hq hb
    exact gives_exec (load_ok hr hi hd (hE a) e).2
  | store ty a x =>
    obtain ⟨i, hi, rfl⟩ := withT_eq (show (withT P ty fun i => .m1 (.store i.size (opd a) (opd x))) = q from hq) hb
    simp [quietOp] at hqq
  | convert s d x =>
    have hq : cConvert P s d (opd x) = q := hq
    rcases form_convert hq hb with rfl | rfl | ⟨p, rfl⟩
    · simp [quietOp] at hqq
    · exact gives_exec (ofBytes_ok hr (hE x) hq e).2
    · simp [memQ] at e
  | makeMap ty res =>
    cases res with
    | none =>
      have hq : AOp.m2 .mkMap = q := hq
      subst hq
      simp [quietOp] at hqq
    | some x => exact absurd (show AOp.bad = q from hq).symm hb
  | makeSlice ty l c =>
    have hq : cMakeSlice P ty (opd l) (opd c) = q := hq
    obtain ⟨zl, b, rfl⟩ := form_makeSlice hq hb
    simp [quietOp] at hqq
  | slice ty x lo hi mx =>
    have hq : cSlice P ty (opd x) (lo.map opd) (hi.map opd) (mx.map opd) = q := hq
    rcases form_slice hq hb with ⟨n, rfl⟩ | ⟨p, rfl⟩
    · obtain ⟨el, i, hu, hi', rfl, h0⟩ := cSlice_sl hq
      exact gives_exec (sliceSl_ok hr hu hi' h0 (hE x) (evOo_opt hE lo) (evOo_opt hE hi) (evOo_opt hE mx) e).2
    · simp [memQ] at e
  | lookup ty x k ok =>
    have hq : cLookup P ty (opd x) (opd k) ok = q := hq
    obtain ⟨fk, zz, rfl⟩ := form_lookup hq hb
    exact gives_exec (lookup_ok hr hq (hE x) (hE k) e).2
  | mapUpdate ty m k x =>
    have hq : cMapUpdate P ty (opd m) (opd k) (opd x) = q := hq
    obtain ⟨fk, rfl⟩ := form_mapUpdate hq hb
    simp [quietOp] at hqq
  | insert ty m k x =>
    have hq : cMapUpdate P ty (opd m) (opd k) (opd x) = q := hq
    obtain ⟨fk, rfl⟩ := form_mapUpdate hq hb
    simp [quietOp] at hqq
  | mapEntry ty m k =>
    have hq : cMapEntry P ty (opd m) (opd k) = q := hq
    obtain ⟨fk, zz, rfl⟩ := form_mapEntry hq hb
    simp [quietOp] at hqq
  | entryStore ty m s x =>
    have hq : AOp.m3 (.entryStore (opd m) (opd s) (opd x)) = q := hq
    subst hq
    simp [quietOp] at hqq
  | range ty x =>
    have hq : cRange P ty (opd x) = q := hq
    obtain ⟨st, rfl⟩ := form_range hq hb
    simp [quietOp] at hqq
  | next x st =>
    have hq : AOp.m3 (.next (opd x) st) = q := hq
    subst hq
    simp [quietOp] at hqq
  | entry x =>
    have hq : AOp.m3 (.entry (opd x)) = q := hq
    subst hq
    simp [quietOp] at hqq
  | call c =>
    have hq : cCall P c = q := hq
    unfold cCall at hq
    obtain ⟨callee, args, argTypes⟩ := c
    cases callee with
    | value f => simp only at hq; subst hq; simp [memQ] at e
    | invoke f n => simp only at hq; subst hq; simp [memQ] at e
    | builtin b =>
      simp only at hq
      subst hq
      exact builtin_quiet hE hr b argTypes args type _ hqq e
  | move x => exact absurd e (by have hq : AOp.p1 _ = q := hq; subst hq; simp [memQ])
  | assign x => exact absurd e (by have hq : AOp.p1 _ = q := hq; subst hq; simp [memQ])
  | pick c a b => exact absurd e (by have hq : AOp.p1 _ = q := hq; subst hq; simp [memQ])
  | nilCheck x => exact absurd e (by have hq : AOp.p1 _ = q := hq; subst hq; simp [memQ])
  | extract x i => exact absurd e (by have hq : AOp.p1 _ = q := hq; subst hq; simp [memQ])
  | unOp op ty x => exact absurd e (by have hq : AOp.p2 _ = q := hq; subst hq; simp [memQ])
  | panic x => exact absurd e (by have hq : AOp.panic _ = q := hq; subst hq; simp [memQ])
  | build ty ps =>
    have hq : cBuild P ty ps = q := hq
    unfold cBuild at hq
    obtain ⟨d, _, hq⟩ := withU_eq hq hb
    obtain ⟨i, _, hq⟩ := withT_eq hq hb
    obtain ⟨zv, zx, _, _, hq⟩ := zeroI_eq hq hb
    cases d with
    | struct fs => simp only at hq; split at hq <;> first | exact absurd hq.symm hb | (split at hq <;> first | exact absurd hq.symm hb | (subst hq; simp [memQ] at e))
    | array n el => simp only at hq; obtain ⟨i, _, hq⟩ := withT_eq hq hb; subst hq; simp [memQ] at e
    | _ => exact absurd hq.symm hb
  | binOp op ty x y yt =>
    have hq : cBinOp P op ty x y = q := hq
    have key : ∀ neg c, cEq P op neg ty c (opd x) (opd y) = q → False := by
      intro neg c hq
      unfold cEq at hq
      obtain ⟨d, _, hq⟩ := withU_eq hq hb
      cases d with
      | pointer el =>
        simp only at hq
        obtain ⟨i, _, hq⟩ := withT_eq hq hb
        cases hz : Nat.beq i.size 0 <;> rw [hz] at hq <;> first | (simp only [cond_false] at hq; subst hq; simp [memQ] at e; done) | exact absurd hq.symm hb
      | struct fs =>
        simp only at hq
        revert hq
        generalize (P.eqGuardType P.depth ty || P.stoodInHeld ty) = b
        cases b <;> intro hq
        · simp only [cond_false] at hq; split at hq <;> first | (subst hq; simp [memQ] at e; done) | exact absurd hq.symm hb
        · exact absurd hq.symm hb
      | _ => first | exact absurd hq.symm hb | (simp only at hq; subst hq; simp [memQ] at e)
    unfold cBinOp at hq
    split at hq
    · exact (key _ _ hq).elim
    · exact (key _ _ hq).elim
    · subst hq; simp [memQ] at e
  | makeInterface ty x =>
    have hq : cMkIface P ty (opd x) = q := hq
    unfold cMkIface at hq
    obtain ⟨d, _, hq⟩ := withU_eq hq hb
    split at hq
    · exact absurd hq.symm hb
    · subst hq; simp [memQ] at e
  | makeFunc fn a b =>
    have hq : (bif isYield fn then AOp.bad else .p2 (.mkFunc fn (a.toList.map opd) (b.toList.map opd))) = q := hq
    cases hy : isYield fn <;> rw [hy] at hq
    · simp only [cond_false] at hq; subst hq; simp [memQ] at e
    · exact absurd hq.symm hb
  | fieldAddr ty x f =>
    have hq : cFieldAddr P ty (opd x) f = q := hq
    unfold cFieldAddr at hq
    obtain ⟨d, _, hq⟩ := withU_eq hq hb
    cases d with
    | struct fs =>
      simp only at hq
      split at hq
      · obtain ⟨i, _, hq⟩ := withT_eq hq hb
        cases hz : Nat.beq i.size 0 <;> rw [hz] at hq <;> first | (simp only [cond_false] at hq; subst hq; simp [memQ] at e; done) | exact absurd hq.symm hb
      · exact absurd hq.symm hb
    | _ => exact absurd hq.symm hb
  | field ty x f =>
    have hq : cField P ty (opd x) f = q := hq
    unfold cField at hq
    obtain ⟨d, _, hq⟩ := withU_eq hq hb
    cases d with
    | struct fs =>
      simp only at hq
      split at hq
      · obtain ⟨i, _, hq⟩ := withT_eq hq hb
        obtain ⟨u, _, hq⟩ := withU_eq hq hb
        subst hq; simp [memQ] at e
      · exact absurd hq.symm hb
    | _ => exact absurd hq.symm hb
  | indexAddr ty x i =>
    have hq : cIndexAddr P ty (opd x) (opd i) = q := hq
    unfold cIndexAddr at hq
    obtain ⟨d, _, hq⟩ := withU_eq hq hb
    cases d with
    | array n el => simp only at hq; obtain ⟨i, _, hq⟩ := withT_eq hq hb; subst hq; simp [memQ] at e
    | slice el => simp only at hq; obtain ⟨i, _, hq⟩ := withT_eq hq hb; subst hq; simp [memQ] at e
    | _ => exact absurd hq.symm hb
  | index ty x i =>
    have hq : cIndex P ty (opd x) (opd i) = q := hq
    unfold cIndex at hq
    obtain ⟨d, _, hq⟩ := withU_eq hq hb
    cases d with
    | array n el => simp only at hq; obtain ⟨i, _, hq⟩ := withT_eq hq hb; obtain ⟨u, _, hq⟩ := withU_eq hq hb; subst hq; simp [memQ] at e
    | string => simp only at hq; subst hq; simp [memQ] at e
    | _ => exact absurd hq.symm hb
  | typeAssert x xt ty ok =>
    have hq : cTypeAssert P (opd x) ty ok = q := hq
    unfold cTypeAssert at hq
    obtain ⟨d, _, hq⟩ := withU_eq hq hb
    obtain ⟨i, _, hq⟩ := withT_eq hq hb
    obtain ⟨zv, zx, _, _, hq⟩ := zeroI_eq hq hb
    subst hq; simp [memQ] at e
  | defer c =>
    have hq : cDefer c = q := hq
    unfold cDefer at hq
    split at hq
    · subst hq; simp [memQ] at e
    · exact absurd hq.symm hb
  | _ => exact absurd (show AOp.bad = q from hq).symm hb
theorem quiet_exec (hE : EnvR r t ρ) (hr : Rel P r h w) (o : Oper) (hq : quietOp (cop P o.op) = true) (e : quietV t h (cop P o.op) = some z) : ValueOf P r w (execOp ρ o) z := by
  have mem : ∀ x : QR, outV x = some z → ∃ h', x = .v z h' := by
    intro x hx
    cases x with
    | v v h' => injection hx with hx; subst hx; exact ⟨h', rfl⟩
    | no => simp [outV] at hx
  cases hc : cop P o.op with
  | p1 p => rw [hc] at e; exact pure_exec hE o (by rw [hc]; exact e)
  | p2 p => rw [hc] at e; exact pure_exec hE o (by rw [hc]; exact e)
  | p3 p => rw [hc] at e; exact pure_exec hE o (by rw [hc]; exact e)
  | m1 p =>
    rw [hc] at e
    obtain ⟨h', hx⟩ := mem (doM1 t h p) e
    exact quiet_mem (h' := h') hE hr o hq (by rw [hc]; exact hx)
  | m2 p =>
    rw [hc] at e
    obtain ⟨h', hx⟩ := mem (doM2 t h p) e
    exact quiet_mem (h' := h') hE hr o hq (by rw [hc]; exact hx)
  | m3 p =>
    rw [hc] at e
    obtain ⟨h', hx⟩ := mem (doM3 t h p) e
    exact quiet_mem (h' := h') hE hr o hq (by rw [hc]; exact hx)
  | _ => rw [hc] at hq; simp [quietOp] at hq
end
end Go.AM
namespace Go.AM
open Go
variable [Env]
section
variable {P : Program} {r : Rho} {w : World} {h h' : H} {t : TM} {ρ : Operand → Value} {z : AV} {q : AOp}
theorem builtin_noalloc {tg : AV} {zs : List AV} (b : Builtin) (ts : Array TypeId) (args : Array Operand) (hqq : cBuiltin P b ts (args.toList.map opd) = .m1 (.alloc tg zs))
    (e : memQ t h (cBuiltin P b ts (args.toList.map opd)) = .v z h') : False := by
  have hb := memQ_bad e
  generalize hq : cBuiltin P b ts (args.toList.map opd) = q at e hb hqq
  unfold cBuiltin at hq
  split at hq
  · rename_i s x ta tb tl e1 e2
    obtain ⟨n, m, tg, rfl⟩ := form_append hq hb
    simp at hqq
  · rename_i s x ta tl e1 e2
    obtain ⟨n, rfl⟩ := form_copy hq hb
    simp at hqq
  · rename_i x ta tl e1 e2
    obtain ⟨n, rfl⟩ := form_clear hq hb
    simp at hqq
  · rename_i x ta tl e1 e2
    rcases form_len hq hb with ⟨k, rfl⟩ | ⟨p, rfl⟩
    · simp at hqq
    · simp [memQ] at e
  · subst hq; simp [memQ] at e
  · subst hq; simp [memQ] at e
  · rename_i m k ta tl e1 e2
    obtain ⟨fk, rfl⟩ := form_delete hq hb
    simp at hqq
  · subst hq; simp [memQ] at e
  · exact absurd hq.symm hb

theorem alloc_only {op : Op} {tg : AV} {zs : List AV} (hqq : cop P op = .m1 (.alloc tg zs)) (e : memQ t h (cop P op) = .v z h') : ∃ ty i zv zx, op = .alloc ty ∧ P.info? ty = some i ∧ i.zero = some zv ∧ ofValue zv = some zx ∧ zs = zx.cells ∧ tg = tagA ty := by
  have hb := memQ_bad e
  generalize hq : cop P op = q at e hb hqq
  cases op with
  | alloc ty =>
    obtain ⟨i, hi, hq⟩ := withT_eq (show (withT P ty fun i => zeroI i fun z => .m1 (.alloc (tagA ty) z.cells)) = q from hq) hb
    obtain ⟨zv, zx, hz, hzx, rfl⟩ := zeroI_eq hq hb
    injection hqq with hqq; injection hqq with hqq1 hqq2
    exact ⟨ty, i, zv, zx, rfl, hi, hz, hzx, hqq2.symm, hqq1.symm⟩
  | box ty x =>
    have hq : AOp.m1 (.box (opd x)) = q := hq
    subst hq
    simp at hqq
  | buildSlice ty n ps =>
    have hq : cBuildSlice P ty n ps = q := hq
    obtain ⟨zl, m, l, rfl⟩ := form_buildSlice hq hb
    simp at hqq
  | load ty a =>
    obtain ⟨i, hi, hq⟩ := withT_eq (show (withT P ty fun i => withU P ty fun d => .m1 (.load i.size (aggD d) (opd a))) = q from hq) hb
    obtain ⟨d, hd, rfl⟩ := withU_eq hq hb
    simp at hqq
  | store ty a x =>
    obtain ⟨i, hi, rfl⟩ := withT_eq (show (withT P ty fun i => .m1 (.store i.size (opd a) (opd x))) = q from hq) hb
    simp at hqq
  | convert s d x =>
    have hq : cConvert P s d (opd x) = q := hq
    rcases form_convert hq hb with rfl | rfl | ⟨p, rfl⟩
    · simp at hqq
    · simp at hqq
    · simp [memQ] at e
  | makeMap ty res =>
    cases res with
    | none =>
      have hq : AOp.m2 .mkMap = q := hq
      subst hq
      simp at hqq
    | some x => exact absurd (show AOp.bad = q from hq).symm hb
  | makeSlice ty l c =>
    have hq : cMakeSlice P ty (opd l) (opd c) = q := hq
    obtain ⟨zl, b, rfl⟩ := form_makeSlice hq hb
    simp at hqq
  | slice ty x lo hi mx =>
    have hq : cSlice P ty (opd x) (lo.map opd) (hi.map opd) (mx.map opd) = q := hq
    rcases form_slice hq hb with ⟨n, rfl⟩ | ⟨p, rfl⟩
    · obtain ⟨el, i, hu, hi', rfl, h0⟩ := cSlice_sl hq
      simp at hqq
    · simp [memQ] at e
  | lookup ty x k ok =>
    have hq : cLookup P ty (opd x) (opd k) ok = q := hq
    obtain ⟨fk, zz, rfl⟩ := form_lookup hq hb
    simp at hqq
  | mapUpdate ty m k x =>
    have hq : cMapUpdate P ty (opd m) (opd k) (opd x) = q := hq
    obtain ⟨fk, rfl⟩ := form_mapUpdate hq hb
    simp at hqq
  | insert ty m k x =>
    have hq : cMapUpdate P ty (opd m) (opd k) (opd x) = q := hq
    obtain ⟨fk, rfl⟩ := form_mapUpdate hq hb
    simp at hqq
  | mapEntry ty m k =>
    have hq : cMapEntry P ty (opd m) (opd k) = q := hq
    obtain ⟨fk, zz, rfl⟩ := form_mapEntry hq hb
    simp at hqq
  | entryStore ty m s x =>
    have hq : AOp.m3 (.entryStore (opd m) (opd s) (opd x)) = q := hq
    subst hq
    simp at hqq
  | range ty x =>
    have hq : cRange P ty (opd x) = q := hq
    obtain ⟨st, rfl⟩ := form_range hq hb
    simp at hqq
  | next x st =>
    have hq : AOp.m3 (.next (opd x) st) = q := hq
    subst hq
    simp at hqq
  | entry x =>
    have hq : AOp.m3 (.entry (opd x)) = q := hq
    subst hq
    simp at hqq
  | call c =>
    have hq : cCall P c = q := hq
    unfold cCall at hq
    obtain ⟨callee, args, argTypes⟩ := c
    cases callee with
    | value f => simp only at hq; subst hq; simp [memQ] at e
    | invoke f n => simp only at hq; subst hq; simp [memQ] at e
    | builtin b =>
      simp only at hq
      subst hq
      exact (builtin_noalloc b argTypes args hqq e).elim
  | move x => exact absurd e (by have hq : AOp.p1 _ = q := hq; subst hq; simp [memQ])
  | assign x => exact absurd e (by have hq : AOp.p1 _ = q := hq; subst hq; simp [memQ])
  | pick c a b => exact absurd e (by have hq : AOp.p1 _ = q := hq; subst hq; simp [memQ])
  | nilCheck x => exact absurd e (by have hq : AOp.p1 _ = q := hq; subst hq; simp [memQ])
  | extract x i => exact absurd e (by have hq : AOp.p1 _ = q := hq; subst hq; simp [memQ])
  | unOp op ty x => exact absurd e (by have hq : AOp.p2 _ = q := hq; subst hq; simp [memQ])
  | panic x => exact absurd e (by have hq : AOp.panic _ = q := hq; subst hq; simp [memQ])
  | build ty ps =>
    have hq : cBuild P ty ps = q := hq
    unfold cBuild at hq
    obtain ⟨d, _, hq⟩ := withU_eq hq hb
    obtain ⟨i, _, hq⟩ := withT_eq hq hb
    obtain ⟨zv, zx, _, _, hq⟩ := zeroI_eq hq hb
    cases d with
    | struct fs => simp only at hq; split at hq <;> first | exact absurd hq.symm hb | (split at hq <;> first | exact absurd hq.symm hb | (subst hq; simp [memQ] at e))
    | array n el => simp only at hq; obtain ⟨i, _, hq⟩ := withT_eq hq hb; subst hq; simp [memQ] at e
    | _ => exact absurd hq.symm hb
  | binOp op ty x y yt =>
    have hq : cBinOp P op ty x y = q := hq
    have key : ∀ neg c, cEq P op neg ty c (opd x) (opd y) = q → False := by
      intro neg c hq
      unfold cEq at hq
      obtain ⟨d, _, hq⟩ := withU_eq hq hb
      cases d with
      | pointer el =>
        simp only at hq
        obtain ⟨i, _, hq⟩ := withT_eq hq hb
        cases hz : Nat.beq i.size 0 <;> rw [hz] at hq <;> first | (simp only [cond_false] at hq; subst hq; simp [memQ] at e; done) | exact absurd hq.symm hb
      | struct fs =>
        simp only at hq
        revert hq
        generalize (P.eqGuardType P.depth ty || P.stoodInHeld ty) = b
        cases b <;> intro hq
        · simp only [cond_false] at hq; split at hq <;> first | (subst hq; simp [memQ] at e; done) | exact absurd hq.symm hb
        · exact absurd hq.symm hb
      | _ => first | exact absurd hq.symm hb | (simp only at hq; subst hq; simp [memQ] at e)
    unfold cBinOp at hq
    split at hq
    · exact (key _ _ hq).elim
    · exact (key _ _ hq).elim
    · subst hq; simp [memQ] at e
  | makeInterface ty x =>
    have hq : cMkIface P ty (opd x) = q := hq
    unfold cMkIface at hq
    obtain ⟨d, _, hq⟩ := withU_eq hq hb
    split at hq
    · exact absurd hq.symm hb
    · subst hq; simp [memQ] at e
  | makeFunc fn a b =>
    have hq : (bif isYield fn then AOp.bad else .p2 (.mkFunc fn (a.toList.map opd) (b.toList.map opd))) = q := hq
    cases hy : isYield fn <;> rw [hy] at hq
    · simp only [cond_false] at hq; subst hq; simp [memQ] at e
    · exact absurd hq.symm hb
  | fieldAddr ty x f =>
    have hq : cFieldAddr P ty (opd x) f = q := hq
    unfold cFieldAddr at hq
    obtain ⟨d, _, hq⟩ := withU_eq hq hb
    cases d with
    | struct fs =>
      simp only at hq
      split at hq
      · obtain ⟨i, _, hq⟩ := withT_eq hq hb
        cases hz : Nat.beq i.size 0 <;> rw [hz] at hq <;> first | (simp only [cond_false] at hq; subst hq; simp [memQ] at e; done) | exact absurd hq.symm hb
      · exact absurd hq.symm hb
    | _ => exact absurd hq.symm hb
  | field ty x f =>
    have hq : cField P ty (opd x) f = q := hq
    unfold cField at hq
    obtain ⟨d, _, hq⟩ := withU_eq hq hb
    cases d with
    | struct fs =>
      simp only at hq
      split at hq
      · obtain ⟨i, _, hq⟩ := withT_eq hq hb
        obtain ⟨u, _, hq⟩ := withU_eq hq hb
        subst hq; simp [memQ] at e
      · exact absurd hq.symm hb
    | _ => exact absurd hq.symm hb
  | indexAddr ty x i =>
    have hq : cIndexAddr P ty (opd x) (opd i) = q := hq
    unfold cIndexAddr at hq
    obtain ⟨d, _, hq⟩ := withU_eq hq hb
    cases d with
    | array n el => simp only at hq; obtain ⟨i, _, hq⟩ := withT_eq hq hb; subst hq; simp [memQ] at e
    | slice el => simp only at hq; obtain ⟨i, _, hq⟩ := withT_eq hq hb; subst hq; simp [memQ] at e
    | _ => exact absurd hq.symm hb
  | index ty x i =>
    have hq : cIndex P ty (opd x) (opd i) = q := hq
    unfold cIndex at hq
    obtain ⟨d, _, hq⟩ := withU_eq hq hb
    cases d with
    | array n el => simp only at hq; obtain ⟨i, _, hq⟩ := withT_eq hq hb; obtain ⟨u, _, hq⟩ := withU_eq hq hb; subst hq; simp [memQ] at e
    | string => simp only at hq; subst hq; simp [memQ] at e
    | _ => exact absurd hq.symm hb
  | typeAssert x xt ty ok =>
    have hq : cTypeAssert P (opd x) ty ok = q := hq
    unfold cTypeAssert at hq
    obtain ⟨d, _, hq⟩ := withU_eq hq hb
    obtain ⟨i, _, hq⟩ := withT_eq hq hb
    obtain ⟨zv, zx, _, _, hq⟩ := zeroI_eq hq hb
    subst hq; simp [memQ] at e
  | defer c =>
    have hq : cDefer c = q := hq
    unfold cDefer at hq
    split at hq
    · subst hq; simp [memQ] at e
    · exact absurd hq.symm hb
  | _ => exact absurd (show AOp.bad = q from hq).symm hb
end
/-! ### what lies below -/
mutual
theorem VR.lowB {r : Rho} {B : Nat} (hd : ∀ b l, r b = some l → b < B) {x : AV} {v : Value} (h : VR r x v) : belowB B x = true := by
  cases h with
  | ptr b o l h => unfold belowB; exact ble_iff.2 (hd _ _ h)
  | sliceC b o len c l h => unfold belowB; exact ble_iff.2 (hd _ _ h)
  | sliceO b o len cap a l h h1 h2 h3 h4 h5 h6 => unfold belowB; exact ble_iff.2 (hd _ _ h)
  | map m l h => unfold belowB; exact ble_iff.2 (hd _ _ h)
  | func f g xs cs ys ds h h1 h2 =>
    unfold belowB
    have hf : belowF B f = true := by
      cases h with
      | same f h => unfold belowF; split
                    · exact absurd rfl (h _)
                    · rfl
      | yield l loc h => exact ble_iff.2 (hd _ _ h)
    rw [hf, VRs.lowB hd h1, VRs.lowB hd h2]; rfl
  | iface t x v h => unfold belowB; exact VR.lowB hd h
  | agg xs vs h => unfold belowB; exact VRs.lowB hd h
  | tup xs vs h => unfold belowB; exact VRs.lowB hd h
  | _ => unfold belowB; rfl
theorem VRs.lowB {r : Rho} {B : Nat} (hd : ∀ b l, r b = some l → b < B) {xs : List AV} {vs : List Value} (h : VRs r xs vs) : belowBs B xs = true := by
  cases h with
  | nil => rfl
  | cons x xs v vs h hs => unfold belowBs; rw [VR.lowB hd h, VRs.lowB hd hs]; rfl
end
mutual
theorem VR.cutB {r r' : Rho} {B : Nat} (hc : ∀ b l, b < B → r b = some l → r' b = some l) {x : AV} {v : Value} (hb : belowB B x = true) (h : VR r x v) : VR r' x v := by
  cases h with
  | bot v => exact .bot v
  | sym n => exact .sym n
  | bool b => exact .bool b
  | int k n => exact .int k n
  | str s => exact .str s
  | nilp => exact .nilp
  | ptr b o l h => unfold belowB at hb; exact .ptr b o l (hc _ _ (ble_iff.1 hb) h)
  | nils => exact .nils
  | sliceC b o len c l h => unfold belowB at hb; exact .sliceC b o len c l (hc _ _ (ble_iff.1 hb) h)
  | sliceO b o len cap a l h h1 h2 h3 h4 h5 h6 => unfold belowB at hb; exact .sliceO b o len cap a l (hc _ _ (ble_iff.1 hb) h) h1 h2 h3 h4 h5 h6
  | nilm => exact .nilm
  | map m l h => unfold belowB at hb; exact .map m l (hc _ _ (ble_iff.1 hb) h)
  | nilf => exact .nilf
  | func f g xs cs ys ds h h1 h2 =>
    unfold belowB at hb
    rw [Bool.and_eq_true, Bool.and_eq_true] at hb
    obtain ⟨b1, b2, b3⟩ := hb
    refine .func f g xs cs ys ds ?_ (VRs.cutB hc b2 h1) (VRs.cutB hc b3 h2)
    cases h with
    | same f h => exact .same f h
    | yield l loc h => exact .yield l loc (hc _ _ (ble_iff.1 b1) h)
  | nili => exact .nili
  | iface t x v h => unfold belowB at hb; exact .iface t x v (VR.cutB hc hb h)
  | agg xs vs h => unfold belowB at hb; exact .agg xs vs (VRs.cutB hc hb h)
  | tup xs vs h => unfold belowB at hb; exact .tup xs vs (VRs.cutB hc hb h)
theorem VRs.cutB {r r' : Rho} {B : Nat} (hc : ∀ b l, b < B → r b = some l → r' b = some l) {xs : List AV} {vs : List Value} (hb : belowBs B xs = true) (h : VRs r xs vs) : VRs r' xs vs := by
  cases h with
  | nil => exact .nil
  | cons x xs v vs h hs =>
    unfold belowBs at hb
    rw [Bool.and_eq_true] at hb
    exact .cons x xs v vs (VR.cutB hc hb.1 h) (VRs.cutB hc hb.2 hs)
end
/-! ### a block that is there already becomes a thing of ours -/
theorem Rel.adopt {P : Program} {r : Rho} {h h' : H} {w : World} {b : Nat} (hr : Rel P r h w) (o : Obj) (l0 : Loc) (hc : clsOf o = 0)
    (e : h.new o = (b, h')) (hlive : ¬ LiveAt r h l0.blk) (ho : ObjR P (r.upd b l0) w l0 o) :
    Rel P (r.upd b l0) h' w ∧ r.le (r.upd b l0) ∧ ∀ blk, LiveAt (r.upd b l0) h' blk → blk = l0.blk ∨ LiveAt r h blk := by
  have hb : b = h.nextOf := by have := H.new_nextOf h o hr.pos.2; rw [e] at this; exact this
  have hfr := hr.fresh
  rw [← hb] at hfr
  have hle := Rho.le_upd r b l0 hfr
  cases h with
  | mk bl nx dd cl =>
  rw [H.new_eq bl nx dd cl o hr.pos.2] at e
  injection e with e1 e2
  subst e1; subst e2
  have hobj : ∀ b' o', (H.mk (T.put bl nx o) (nx + 1) dd cl).obj b' = some o' → (b' = nx ∧ o' = o) ∨ (b' ≠ nx ∧ (H.mk bl nx dd cl).obj b' = some o') := by
    intro b' o' hb'
    rw [H.obj_eq, T.get_put] at hb'
    by_cases q : b' = nx
    · left; rw [if_pos q] at hb'; simp at hb'; exact ⟨q, hb'.symm⟩
    · right; rw [if_neg q] at hb'; exact ⟨q, hb'⟩
  have hlv : ∀ o', Live (H.mk (T.put bl nx o) (nx + 1) dd cl) o' ↔ Live (H.mk bl nx dd cl) o' := by
    intro o'; unfold Live; rw [alive_same (bl := bl) (bl' := T.put bl nx o) (n := nx) (n' := nx + 1) (c := cl) (c' := cl)]
  have hsep : ∀ b' o' l', (H.mk bl nx dd cl).obj b' = some o' → Live (H.mk bl nx dd cl) o' → r b' = some l' → l'.blk ≠ l0.blk :=
    fun b' o' l' h1 h2 h3 h4 => hlive ⟨b', o', l', h1, h2, h3, h4⟩
  refine ⟨⟨?_, ?_, ?_, ?_, ?_, ?_, ?_⟩, hle, ?_⟩
  · intro b' o' hb' hv
    rcases hobj b' o' hb' with ⟨rfl, rfl⟩ | ⟨hne, h0⟩
    · exact ⟨_, Rho.upd_same r _ _, ho⟩
    · obtain ⟨l, hl, hO⟩ := hr.obj b' o' h0 ((hlv o').1 hv)
      exact ⟨l, hle _ _ hl, hO.mono hle⟩
  · intro b' l hl
    by_cases q : b' = nx
    · subst q; exact Nat.lt_succ_self _
    · rw [Rho.upd_other r _ q] at hl; exact Nat.lt_succ_of_lt (hr.dom _ _ hl)
  · intro b' o' hb'
    rcases hobj b' o' hb' with ⟨rfl, rfl⟩ | ⟨hne, h0⟩
    · exact ⟨Nat.lt_succ_self _, by rw [hc]; exact hr.pos.1⟩
    · exact ⟨Nat.lt_succ_of_lt (hr.key _ _ h0).1, (hr.key _ _ h0).2⟩
  · intro b1 b2 o1 o2 l1 l2 hb1 hv1 hb2 hv2 hl1 hl2 heq hne
    rcases hobj b1 o1 hb1 with ⟨rfl, rfl⟩ | ⟨hne1, h1⟩
    · rcases hobj b2 o2 hb2 with ⟨rfl, rfl⟩ | ⟨hne2, h2⟩
      · exact absurd rfl hne
      · rw [Rho.upd_same] at hl1; injection hl1 with hl1; subst hl1
        rw [Rho.upd_other r _ hne2] at hl2
        exact absurd heq.symm (hsep b2 o2 l2 h2 ((hlv o2).1 hv2) hl2)
    · rcases hobj b2 o2 hb2 with ⟨rfl, rfl⟩ | ⟨hne2, h2⟩
      · rw [Rho.upd_same] at hl2; injection hl2 with hl2; subst hl2
        rw [Rho.upd_other r _ hne1] at hl1
        exact absurd heq (hsep b1 o1 l1 h1 ((hlv o1).1 hv1) hl1)
      · rw [Rho.upd_other r _ hne1] at hl1
        rw [Rho.upd_other r _ hne2] at hl2
        exact hr.inj b1 b2 o1 o2 l1 l2 h1 ((hlv o1).1 hv1) h2 ((hlv o2).1 hv2) hl1 hl2 heq hne
  · intro b1 b2 o1 o2 l1 l2 hb1 hv1 hb2 hv2 hl1 hl2 heq hne ht
    rcases hobj b1 o1 hb1 with ⟨rfl, rfl⟩ | ⟨hne1, h1⟩
    · rcases hobj b2 o2 hb2 with ⟨rfl, rfl⟩ | ⟨hne2, h2⟩
      · exact absurd rfl hne
      · rw [Rho.upd_same] at hl1; injection hl1 with hl1; subst hl1
        rw [Rho.upd_other r _ hne2] at hl2
        exact absurd heq.symm (hsep b2 o2 l2 h2 ((hlv o2).1 hv2) hl2)
    · rcases hobj b2 o2 hb2 with ⟨rfl, rfl⟩ | ⟨hne2, h2⟩
      · rw [Rho.upd_same] at hl2; injection hl2 with hl2; subst hl2
        rw [Rho.upd_other r _ hne1] at hl1
        exact absurd heq (hsep b1 o1 l1 h1 ((hlv o1).1 hv1) hl1)
      · rw [Rho.upd_other r _ hne1] at hl1
        rw [Rho.upd_other r _ hne2] at hl2
        exact hr.tip b1 b2 o1 o2 l1 l2 h1 ((hlv o1).1 hv1) h2 ((hlv o2).1 hv2) hl1 hl2 heq hne ht
  · intro k hk
    rw [alive_same (bl := bl) (bl' := T.put bl nx o) (n := nx) (n' := nx + 1) (c := cl) (c' := cl)]; exact hr.dead k hk
  · exact ⟨hr.pos.1, Nat.succ_pos _⟩
  · rintro blk ⟨b', o', l', hb', hv', hl', rfl⟩
    rcases hobj b' o' hb' with ⟨rfl, rfl⟩ | ⟨hne, h0⟩
    · rw [Rho.upd_same] at hl'; injection hl' with hl'; subst hl'
      exact .inl rfl
    · rw [Rho.upd_other r _ hne] at hl'
      exact .inr ⟨b', o', l', h0, (hlv o').1 hv', hl', rfl⟩
/-! ### one operation, at its real time -/
section
variable {P : Program} {r : Rho} {t : TM} {h : H} {b : Frame} {a : Act} {k : List Item} {cs : List Frame} {w : World} {ops : Array Oper} {i : Nat} {rest : List Nat} {o : Oper} {call : CallF}
theorem quiet_noDefer (hq : quietOp (cop P o.op) = true) : ∀ c, o.op ≠ .defer c := by
  refine not_defer (P := P) (o := o) rfl (fun g args e => ?_) (fun e => ?_) <;> (rw [e] at hq; simp [quietOp] at hq)
theorem draw_quiet (rel : Rel P r h w) (env : TR r t a.tmps) (ho : ops[i]? = some o) (hw : Region.wanted o (yielded ops a.tmps) = true) (hq : quietOp (cop P o.op) = true) {z : AV} (e : quietV t h (cop P o.op) = some z) :
    ∃ v, Steps P (lone (b.atR a (.inRegion ops (i :: rest) :: k)) cs w) (lone (b.atR (a.put o.dst v) (.inRegion ops rest :: k)) cs w) ∧ VR r z v := by
  obtain ⟨v, hrun, hv⟩ := quiet_exec env.env rel o hq e
  exact ⟨v, .one (step_of_value ho hw (by rw [Oper.semAt_eq _ _ _ (quiet_noDefer hq)]; exact hrun)), hv⟩
theorem draw_alloc (ho : ops[i]? = some o) (hw : Region.wanted o (yielded ops a.tmps) = true) {tg : AV} {zs : List AV} (hq : cop P o.op = .m1 (.alloc tg zs)) :
    ∃ (cells : Array Value) (ty : TypeId), TyTag tg ty ∧ (∀ r : Rho, VRs r zs cells.toList) ∧
      Steps P (lone (b.atR a (.inRegion ops (i :: rest) :: k)) cs w) (lone (b.atR (a.put o.dst (.pointer (some ⟨w.heap.size, 0, none⟩))) (.inRegion ops rest :: k)) cs (w.alloc (.cells cells ty))) := by
  obtain ⟨z, h', hz⟩ : ∃ z h', memQ (.lf : TM) (⟨.lf, 1, .lf, 1⟩ : H) (cop P o.op) = .v z h' := by
    rw [hq]
    show ∃ z h', ptrOf (H.newRow ⟨.lf, 1, .lf, 1⟩ tg zs) = .v z h'
    cases H.newRow ⟨.lf, 1, .lf, 1⟩ tg zs with
    | mk b h => exact ⟨_, _, rfl⟩
  obtain ⟨ty, inf, zv, zx, hop, hi, hzero, hzx, rfl, rfl⟩ := alloc_only hq hz
  have hnd : ∀ c, o.op ≠ .defer c := by rw [hop]; simp
  refine ⟨zv.cells, ty, tagA_ty, fun r => ((ofValue_vr (r := r) hzx).1.cells (ofValue_vr (r := r) hzx).2), .one (step_of_value ho hw ?_)⟩
  rw [Oper.semAt_eq _ _ _ hnd]
  unfold execOp
  rw [hop]
  simp only
  rw [Sem.run_bind]
  have : (Instr.alloc ty true (.tuple #[])).run P w = .ok (.pointer (some ⟨w.heap.size, 0, none⟩)) (w.alloc (.cells zv.cells ty)) := by
    unfold Instr.alloc
    rw [Sem.run_bind, run_zero hi hzero]
    rfl
  rw [this]; rfl
theorem draw_effect (hC : SimCall P call) (rel : Rel P r h w) (env : TR r t a.tmps) (ho : ops[i]? = some o) (hw : Region.wanted o (yielded ops a.tmps) = true) {z : AV} {p : Option (AV × Bool)} {h' : H} (e : doE call t h (cop P o.op) = .ret z p h') :
    ∃ r' v w', Steps P (lone (b.atR a (.inRegion ops (i :: rest) :: k)) cs w) (lone (b.atR (a.put o.dst v) (.inRegion ops rest :: k)) cs w') ∧ VR r' z v ∧ Rel P r' h' w' ∧ Keeps r h w r' h' w' := by
  have mem : ∀ x : QR, memQ t h (cop P o.op) = x → (match x with | .v v h => CR.ret v none h | .no => .stuck) = .ret z p h' →
      ∃ r' v w', Steps P (lone (b.atR a (.inRegion ops (i :: rest) :: k)) cs w) (lone (b.atR (a.put o.dst v) (.inRegion ops rest :: k)) cs w') ∧ VR r' z v ∧ Rel P r' h' w' ∧ Keeps r h w r' h' w' := by
    intro x hx he
    cases x with
    | no => simp at he
    | v z' h1 =>
      injection he with e1 e2 e3
      subst e1; subst e3
      have hnd := not_defer (P := P) (o := o) rfl (fun g args e => by rw [e] at hx; simp [memQ] at hx) (fun e => by rw [e] at hx; simp [memQ] at hx)
      obtain ⟨v, w', r', hrun, hv, hrel, hk⟩ := mem_exec env.env rel o hx
      rcases hrun with hrun | ⟨hrun, rfl⟩
      · exact ⟨r', v, w', .one (step_of_value ho hw (by rw [Oper.semAt_eq _ _ _ hnd]; exact hrun)), hv, hrel, hk⟩
      · exact ⟨r', undef, w', .one (step_of_skip ho hw (by rw [Oper.semAt_eq _ _ _ hnd]; exact hrun)), hv, hrel, hk⟩
  have called : ∀ x : CR, (∀ c, o.op ≠ .defer c) → CallOk P r h w (execOp a.eval o) (b.atR a (.inRegion ops (i :: rest) :: k)) cs x → x = .ret z p h' →
      ∃ r' v w', Steps P (lone (b.atR a (.inRegion ops (i :: rest) :: k)) cs w) (lone (b.atR (a.put o.dst v) (.inRegion ops rest :: k)) cs w') ∧ VR r' z v ∧ Rel P r' h' w' ∧ Keeps r h w r' h' w' := by
    intro x hnd hx he
    subst he
    have hsem := Oper.semAt_eq b.roundOf a.eval o hnd
    obtain ⟨r', v', w', hrun, hv, hrel, hk⟩ := hx
    rcases hrun with hrun | ⟨nx, fr, w1, hrun, hent, hst⟩
    · exact ⟨r', v', w', .one (step_of_value ho hw (by rw [hsem]; exact hrun)), hv, hrel, hk⟩
    · have hst0 := step_of_entered (P := P) (b := b) (k := k) (cs := cs) (rest := rest) ho hw (w' := w1) (by rw [hsem]; exact hrun) hent
      have hf := Frame.finish_atR b a ops i rest k v'
      rw [show (ops[i]?).bind (·.dst) = o.dst from by rw [ho]; rfl] at hf
      rw [hf] at hst
      exact ⟨r', v', w', .head hst0 hst, hv, hrel, hk⟩
  by_cases h1 : ∃ c, o.op = .call c
  · obtain ⟨c, hop⟩ := h1
    have hnd : ∀ c', o.op ≠ .defer c' := by rw [hop]; simp
    have hcop : cop P o.op = cCall P c := by rw [hop]; rfl
    have hargs : VRs r (evOs t (c.args.toList.map opd)) (c.args.map a.eval).toList := args_vrs env.env c.args
    have hex : execOp a.eval o = (do let d ← resolve a.eval c o.type; invoke d.target d.args) := by unfold execOp; rw [hop]
    cases hcal : c.callee with
    | value g =>
      have ec : cop P o.op = .callv (opd g) (c.args.toList.map opd) := by rw [hcop]; unfold cCall; rw [hcal]
      rw [ec] at e
      refine called _ hnd ?_ e
      have := hC r h w (evO t (opd g)) (evOs t (c.args.toList.map opd)) (a.eval g) (c.args.map a.eval) (b.atR a (.inRegion ops (i :: rest) :: k)) cs rel (env.env g) hargs
      refine CallOk.congr ?_ this
      rw [hex]
      simp only [resolve, hcal]
      rfl
    | invoke g name =>
      have ec : cop P o.op = .invoke (opd g) (methodTbl P name) (c.args.toList.map opd) := by rw [hcop]; unfold cCall; rw [hcal]
      rw [ec] at e
      refine called _ hnd ?_ e
      refine CallOk.congr ?_ (invoke_ok hC rel (env.env g) hargs _ cs)
      rw [hex]
      simp only [resolve, hcal]
      rfl
    | builtin bb =>
      have ec : cop P o.op = cBuiltin P bb c.argTypes (c.args.toList.map opd) := by rw [hcop]; unfold cCall; rw [hcal]
      cases hc : cop P o.op with
      | m1 q => rw [hc] at e; exact mem (doM1 t h q) (by rw [hc]; rfl) e
      | m2 q => rw [hc] at e; exact mem (doM2 t h q) (by rw [hc]; rfl) e
      | m3 q => rw [hc] at e; exact mem (doM3 t h q) (by rw [hc]; rfl) e
      | callv g as =>
        exfalso
        rcases builtin_plain (P := P) bb c.argTypes (c.args.toList.map opd) with hp | ⟨_, hp⟩ <;> rw [← ec, hc] at hp <;> simp [plainQ] at hp
      | invoke g tb as =>
        exfalso
        rcases builtin_plain (P := P) bb c.argTypes (c.args.toList.map opd) with hp | ⟨_, hp⟩ <;> rw [← ec, hc] at hp <;> simp [plainQ] at hp
      | _ => rw [hc] at e; simp [doE] at e
  · by_cases h2 : ∃ c, o.op = .defer c
    · obtain ⟨c, hop⟩ := h2
      rcases defer_cop (P := P) (c := c) with ⟨g, args, ec⟩ | ec <;> rw [hop, ec] at e <;> simp [doE] at e
    · by_cases h3 : ∃ x, o.op = .panic x
      · obtain ⟨x, hop⟩ := h3
        have ec : cop P o.op = .panic (opd x) := by rw [hop]; rfl
        rw [ec] at e; simp [doE] at e
      · have hp := cop_plain (P := P) (fun c e => h1 ⟨c, e⟩) (fun c e => h2 ⟨c, e⟩) (fun x e => h3 ⟨x, e⟩)
        cases hc : cop P o.op with
        | m1 q => rw [hc] at e; exact mem (doM1 t h q) (by rw [hc]; rfl) e
        | m2 q => rw [hc] at e; exact mem (doM2 t h q) (by rw [hc]; rfl) e
        | m3 q => rw [hc] at e; exact mem (doM3 t h q) (by rw [hc]; rfl) e
        | callv g as => rw [hc] at hp; simp [plainQ] at hp
        | invoke g tb as => rw [hc] at hp; simp [plainQ] at hp
        | _ => rw [hc] at e; simp [doE] at e
end
end Go.AM
namespace Go.AM
open Go
variable [Env]
/-! ### regions that draw their order -/
theorem restrict_get (t : TM) (n : Nat) : ∀ (l : List Nat) (x : AV), T.get (restrict t l) n = some x → n ∈ l ∧ T.get t n = some x
  | [], x, h => by simp [restrict, T.get_lf] at h
  | m :: r, x, h => by
    unfold restrict at h
    cases hm : T.get t m with
    | none =>
      rw [hm] at h
      have := restrict_get t n r x h
      exact ⟨List.mem_cons_of_mem _ this.1, this.2⟩
    | some v =>
      rw [hm] at h
      simp only at h
      rw [T.get_put] at h
      by_cases e : n = m
      · subst e; rw [if_pos rfl] at h; injection h with h; subst h
        exact ⟨List.mem_cons_self .., hm⟩
      · rw [if_neg e] at h
        have := restrict_get t n r x h
        exact ⟨List.mem_cons_of_mem _ this.1, this.2⟩
theorem restrict_mem (t : TM) (n : Nat) : ∀ (l : List Nat), n ∈ l → T.get (restrict t l) n = T.get t n
  | [], h => by simp at h
  | m :: r, h => by
    unfold restrict
    cases hm : T.get t m with
    | none =>
      simp only
      by_cases e : n ∈ r
      · exact restrict_mem t n r e
      · rcases List.mem_cons.1 h with rfl | h
        · cases hx : T.get (restrict t r) n with
          | none => rw [hm]
          | some x => exact absurd (restrict_get t n r x hx).1 e
        · exact absurd h e
    | some v =>
      simp only
      rw [T.get_put]
      by_cases e : n = m
      · subst e; rw [if_pos rfl, hm]
      · rw [if_neg e]
        rcases List.mem_cons.1 h with h | h
        · exact absurd h e
        · exact restrict_mem t n r h
theorem wantG_restrict {t : TM} {g : Option (Nat × Bool)} {l : List Nat} (h : ∀ d w, g = some (d, w) → d ∈ l) : wantG (restrict t l) g = wantG t g := by
  cases g with
  | none => rfl
  | some dw =>
    obtain ⟨d, w⟩ := dw
    show wantS (restrict t l) (d, w) = wantS t (d, w)
    unfold wantS
    simp only
    rw [restrict_mem t d l (h d w rfl)]
theorem getD_put (t : TM) (d : Option Nat) (v : AV) (n : Nat) : T.get (putD t d v) n = if d = some n then some v else T.get t n := by
  cases d with
  | none => simp [putD]
  | some d =>
    show T.get (T.put t d v) n = _
    rw [T.get_put]
    by_cases e : n = d
    · subst e; simp
    · rw [if_neg e, if_neg (by intro h; injection h with h; exact e h.symm)]
mutual
theorem belowB_mono {B B' : Nat} (h : B ≤ B') : ∀ (x : AV), belowB B x = true → belowB B' x = true
  | .bool b, _ => by unfold belowB; rfl
  | .int k a, _ => by unfold belowB; rfl
  | .str s, _ => by unfold belowB; rfl
  | .ptr x o, e => by unfold belowB at *; exact ble_iff.2 (Nat.le_trans (ble_iff.1 e) h)
  | .nilp, _ => by unfold belowB; rfl
  | .slice x o l c, e => by unfold belowB at *; exact ble_iff.2 (Nat.le_trans (ble_iff.1 e) h)
  | .nils, _ => by unfold belowB; rfl
  | .map m, e => by unfold belowB at *; exact ble_iff.2 (Nat.le_trans (ble_iff.1 e) h)
  | .nilm, _ => by unfold belowB; rfl
  | .func f x c, e => by
    unfold belowB at *
    rw [Bool.and_eq_true, Bool.and_eq_true] at *
    refine ⟨?_, belowBs_mono h x e.2.1, belowBs_mono h c e.2.2⟩
    have := e.1
    unfold belowF at *
    split
    · exact ble_iff.2 (Nat.le_trans (ble_iff.1 this) h)
    · rfl
  | .nilf, _ => by unfold belowB; rfl
  | .sym _, _ => by unfold belowB; rfl
  | .iface t v, e => by unfold belowB at *; exact belowB_mono h v e
  | .nili, _ => by unfold belowB; rfl
  | .agg x, e => by unfold belowB at *; exact belowBs_mono h x e
  | .tup x, e => by unfold belowB at *; exact belowBs_mono h x e
  | .bot, _ => by unfold belowB; rfl
theorem belowBs_mono {B B' : Nat} (h : B ≤ B') : ∀ (x : List AV), belowBs B x = true → belowBs B' x = true
  | [], _ => by unfold belowBs; rfl
  | a :: x, e => by
    unfold belowBs at *
    rw [Bool.and_eq_true] at *
    exact ⟨belowB_mono h a e.1, belowBs_mono h x e.2⟩
end
section
variable {P : Program} {ops : Array Oper} {ds : List DOper} {bs : Nat → List Nat} {kind : Nat → DK} {call : CallF} {L : List H}

/-- the facts of a run in the text's order -/
theorem rec_at (reg : RegOk P ops ds bs kind) (X : Trace call ds L) {i : Nat} {o : Oper} (ho : ops[i]? = some o) : ∃ g q, coper P ops o = .mk o.dst g q ∧ X.t (i + 1) = putD (X.t i) o.dst (X.v i) ∧ X.m (i + 1) = stepM (kind i) (X.m i) ∧
    belowB (X.h (i + 1)).nextOf (X.v i) = true ∧ (X.h i).nextOf ≤ (X.h (i + 1)).nextOf ∧
    ((wantG (X.t i) g = some false ∧ X.skip i = true ∧ X.v i = .undef ∧ X.h (i + 1) = X.h i ∧ (kind i = .e → L[X.m i + 1]? = some (X.h (i + 1)))) ∨
     (wantG (X.t i) g = some true ∧ X.skip i = false ∧
      (kind i = .q → X.h (i + 1) = X.h i ∧ ∀ p, p ≤ ops.size → (∀ e, e < ops.size → kind e = .e → e ∈ bs i → e < p) → (∀ e, e < p → kind e = .e → i ∉ bs e) →
        ∀ G, L[ecount kind p]? = some G → quietV (restrict (X.t i) (namesOf o)) G q = some (X.v i)) ∧
      (kind i = .a → allocE (X.t i) (X.h i) q = .v (X.v i) (X.h (i + 1))) ∧
      (kind i = .e → (∃ p, doE call (restrict (X.t i) (namesOf o)) (X.h i) q = .ret (X.v i) p (X.h (i + 1))) ∧ L[X.m i + 1]? = some (X.h (i + 1))))) := by
  obtain ⟨lo, hi, hd, hlo, hhi⟩ := reg.place i o ho
  obtain ⟨g, q, hc⟩ := coper_mk P ops o
  rw [hc] at hd
  have hr := X.ok i _ hd
  obtain ⟨h1, h2, h3, h4, h5⟩ := hr.next o.dst g q (kind i) lo hi (namesOf o) rfl
  refine ⟨g, q, hc, h1, h2, h3, h4, ?_⟩
  rcases h5 with ⟨h5, h6, h7, h8, h9⟩ | ⟨h5, h6, h7⟩
  · refine .inl ⟨h5, h6, h7, h8, fun hk => ?_⟩
    rw [hk] at h9; exact h9
  · refine .inr ⟨h5, h6, fun hk => ?_, fun hk => ?_, fun hk => ?_⟩
    · rw [hk] at h7
      refine ⟨h7.1, fun p hp a1 a2 G hG => ?_⟩
      exact h7.2.2 _ G (hlo p hp a1) (hhi p hp a2) hG
    · rw [hk] at h7; exact h7
    · rw [hk] at h7; exact h7
theorem get_op {i : Nat} (h : i < ops.size) : ∃ o, ops[i]? = some o := ⟨ops[i], Array.getElem?_eq_getElem h⟩
theorem next_mono (reg : RegOk P ops ds bs kind) (X : Trace call ds L) {p : Nat} : ∀ {q : Nat}, p ≤ q → q ≤ ops.size → (X.h p).nextOf ≤ (X.h q).nextOf
  | 0, h, _ => by have : p = 0 := by omega
                  subst this; exact Nat.le_refl _
  | q + 1, h, hq => by
    by_cases e : p = q + 1
    · subst e; exact Nat.le_refl _
    · obtain ⟨o, ho⟩ := get_op (ops := ops) (i := q) (by omega)
      obtain ⟨g, qq, _, _, _, _, h4, _⟩ := rec_at reg X ho
      exact Nat.le_trans (next_mono reg X (by omega) (by omega)) h4
theorem tmps_below (reg : RegOk P ops ds bs kind) (X : Trace call ds L) (h0 : ∀ n x, T.get (X.t 0) n = some x → belowB (X.h 0).nextOf x = true) : ∀ (p : Nat), p ≤ ops.size → ∀ n x, T.get (X.t p) n = some x → belowB (X.h p).nextOf x = true
  | 0, _ => h0
  | p + 1, hp => by
    intro n x hx
    obtain ⟨o, ho⟩ := get_op (ops := ops) (i := p) (by omega)
    obtain ⟨g, qq, _, h1, _, h3, h4, _⟩ := rec_at reg X ho
    rw [h1, getD_put] at hx
    split at hx
    · injection hx with hx; subst hx; exact h3
    · exact belowB_mono h4 x (tmps_below reg X h0 p (by omega) n x hx)
theorem m_count (reg : RegOk P ops ds bs kind) (X : Trace call ds L) (h0 : X.m 0 = 0) : ∀ (p : Nat), p ≤ ops.size → X.m p = ecount kind p
  | 0, _ => h0
  | p + 1, hp => by
    obtain ⟨o, ho⟩ := get_op (ops := ops) (i := p) (by omega)
    obtain ⟨g, qq, _, _, h2, _⟩ := rec_at reg X ho
    rw [h2, m_count reg X h0 p (by omega)]; rfl
theorem no_writer (reg : RegOk P ops ds bs kind) (X : Trace call ds L) {n p : Nat} : ∀ {q : Nat}, p ≤ q → q ≤ ops.size → (∀ i o, p ≤ i → i < q → ops[i]? = some o → o.dst ≠ some n) → T.get (X.t q) n = T.get (X.t p) n
  | 0, h, _, _ => by have : p = 0 := by omega
                     subst this; rfl
  | q + 1, h, hq, hw => by
    by_cases e : p = q + 1
    · subst e; rfl
    · obtain ⟨o, ho⟩ := get_op (ops := ops) (i := q) (by omega)
      obtain ⟨g, qq, _, h1, _⟩ := rec_at reg X ho
      rw [h1, getD_put, if_neg (hw q o (by omega) (by omega) ho)]
      exact no_writer reg X (by omega) (by omega) (fun i o a b c => hw i o a (by omega) c)
def idOf (X : Trace call ds L) (x : Nat) : Nat := match X.v x with | .ptr b _ => b | _ => 0
/-- a new variable that is made -/
def IsAl (kind : Nat → DK) (X : Trace call ds L) (N x : Nat) : Prop := x < N ∧ kind x = .a ∧ X.skip x = false
theorem al_at (reg : RegOk P ops ds bs kind) (X : Trace call ds L) (hp : 0 < (X.h 0).nextOf) {x : Nat} (hx : IsAl kind X ops.size x) : ∃ o tg zs, ops[x]? = some o ∧ cop P o.op = .m1 (.alloc tg zs) ∧ X.v x = .ptr (idOf X x) 0 ∧
    (X.h x).new (.row zs.length tg (T.putList .lf 0 zs) 0 0) = (idOf X x, X.h (x + 1)) ∧ idOf X x = (X.h x).nextOf ∧ (X.h (x + 1)).nextOf = idOf X x + 1 := by
  obtain ⟨h1, h2, h3⟩ := hx
  obtain ⟨o, ho⟩ := get_op h1
  obtain ⟨g, q, hc, _, _, _, _, hh⟩ := rec_at reg X ho
  rcases hh with ⟨_, h, _⟩ | ⟨_, _, _, ha, _⟩
  · rw [h3] at h; simp at h
  · have ha := ha h2
    obtain ⟨tg, z, rfl, b, hv, hn, _, _, hpos⟩ := alloc_next ha
    have hid : idOf X x = b := by unfold idOf; rw [hv]
    obtain ⟨e1, e2⟩ := hpos (Nat.lt_of_lt_of_le hp (next_mono reg X (Nat.zero_le _) (Nat.le_of_lt h1)))
    refine ⟨o, tg, z, ho, ?_, by rw [hid]; exact hv, by rw [hid]; exact hn, by rw [hid]; exact e1, by rw [hid]; exact e2⟩
    unfold coper at hc
    cases hg : o.guard with
    | none => rw [hg] at hc; injection hc
    | some jw =>
      obtain ⟨j, w⟩ := jw
      rw [hg] at hc
      simp only at hc
      cases hd : (ops[j]?).bind (·.dst) with
      | none => rw [hd] at hc; injection hc with _ _ hc; simp at hc
      | some d => rw [hd] at hc; injection hc
theorem id_inj (reg : RegOk P ops ds bs kind) (X : Trace call ds L) (hp : 0 < (X.h 0).nextOf) {x y : Nat} (hx : IsAl kind X ops.size x) (hy : IsAl kind X ops.size y) (e : idOf X x = idOf X y) : x = y := by
  have key : ∀ x y, IsAl kind X ops.size x → IsAl kind X ops.size y → x < y → idOf X x < idOf X y := by
    intro x y hx hy hlt
    obtain ⟨_, _, _, _, _, _, _, _, h1⟩ := al_at reg X hp hx
    obtain ⟨_, _, _, _, _, _, _, h2, _⟩ := al_at reg X hp hy
    have := next_mono reg X (p := x + 1) (q := y) hlt (Nat.le_of_lt hy.1)
    omega
  rcases Nat.lt_trichotomy x y with h | h | h
  · have := key x y hx hy h; omega
  · exact h
  · have := key y x hy hx h; omega

/-- where a real run stands: S is done; the changes ahead of p are in the heap -/
structure Inv (P : Program) (ops : Array Oper) (kind : Nat → DK) (X : Trace call ds L) (r0 : Rho) (h0 : H) (w0 : World) (S : Nat → Prop) (p : Nat) (r rS : Rho) (tm : Array Value) (w : World) : Prop where
  rel : Rel P r (X.h p) w
  le : r.le rS
  keeps : Keeps r0 h0 w0 r (X.h p) w
  pend : ∀ x, p ≤ x → S x → IsAl kind X ops.size x → ∃ l, rS (idOf X x) = some l ∧
    (∀ o tg zs, ops[x]? = some o → cop P o.op = .m1 (.alloc tg zs) → ∀ r', ObjR P r' w l (.row zs.length tg (T.putList .lf 0 zs) 0 0)) ∧ ¬ LiveAt r (X.h p) l.blk ∧ w0.heap.size ≤ l.blk ∧ l.blk < w.heap.size
  dist : ∀ x y lx ly, p ≤ x → S x → IsAl kind X ops.size x → p ≤ y → S y → IsAl kind X ops.size y → rS (idOf X x) = some lx → rS (idOf X y) = some ly → lx.blk = ly.blk → x = y
  back : ∀ b l, rS b = some l → r b = some l ∨ ∃ x, p ≤ x ∧ S x ∧ IsAl kind X ops.size x ∧ b = idOf X x
  tmp : ∀ n q, q ≤ ops.size → (∀ i o, ops[i]? = some o → o.dst = some n → (i < q ↔ S i)) → ∀ x, T.get (X.t q) n = some x → ∃ v, tm[n]? = some v ∧ VR rS x v

section
variable {X : Trace call ds L} {r0 : Rho} {h0 : H} {w0 : World} {S : Nat → Prop} {p : Nat} {r rS : Rho} {tm : Array Value} {w : World}
theorem Inv.advance (reg : RegOk P ops ds bs kind) (hp : 0 < (X.h 0).nextOf) (I : Inv P ops kind X r0 h0 w0 S p r rS tm w) (hlt : p < ops.size) (hk : kind p = .q ∨ (kind p = .a ∧ S p)) : ∃ r', Inv P ops kind X r0 h0 w0 S (p + 1) r' rS tm w := by
  obtain ⟨o, ho⟩ := get_op hlt
  obtain ⟨g, q, hc, h1, h2, h3, h4, hh⟩ := rec_at reg X ho
  by_cases hal : IsAl kind X ops.size p
  · -- a new variable, made already
    have hSp : S p := by
      rcases hk with hk | hk
      · have := hal.2.1; rw [hk] at this; simp at this
      · exact hk.2
    obtain ⟨o', tg, zs, ho', hcop, hv, hnew, hid, hnext⟩ := al_at reg X hp hal
    obtain ⟨l, hl, hobj, hnl, hlo, hb⟩ := I.pend p (Nat.le_refl _) hSp hal
    obtain ⟨ha1, ha2, ha3⟩ := I.rel.adopt (.row zs.length tg (T.putList .lf 0 zs) 0 0) l rfl hnew hnl (hobj o' tg zs ho' hcop _)
    have hle : (r.upd (idOf X p) l).le rS := by
      intro b l' hb'
      by_cases e : b = idOf X p
      · subst e; rw [Rho.upd_same] at hb'; injection hb' with hb'; subst hb'; exact hl
      · rw [Rho.upd_other r l e] at hb'; exact I.le _ _ hb'
    refine ⟨r.upd (idOf X p) l, ha1, hle, ?_, ?_, ?_, ?_, I.tmp⟩
    · refine ⟨Rho.le_trans I.keeps.le ha2, I.keeps.size, I.keeps.tape, I.keeps.os, I.keeps.output, Nat.le_trans I.keeps.next h4, I.keeps.same, ?_⟩
      intro blk hblk hlv
      rcases ha3 blk hlv with e | hlv
      · omega
      · exact I.keeps.back blk hblk hlv
    · intro x hx hSx hax
      obtain ⟨lx, e1, e2, e3, e4⟩ := I.pend x (by omega) hSx hax
      refine ⟨lx, e1, e2, fun hlv => ?_, e4⟩
      rcases ha3 lx.blk hlv with e | hlv
      · have := I.dist x p lx l (by omega) hSx hax (Nat.le_refl _) hSp hal e1 hl e
        omega
      · exact e3 hlv
    · intro x y lx ly hx h1 h2 hy h3 h4
      exact I.dist x y lx ly (by omega) h1 h2 (by omega) h3 h4
    · intro b l' hb'
      rcases I.back b l' hb' with h | ⟨x, hx, hSx, hax, e⟩
      · exact .inl (ha2 _ _ h)
      · by_cases hxp : x = p
        · subst hxp
          rw [← e] at hl
          rw [hl] at hb'; injection hb' with hb'; subst hb'
          exact .inl (by rw [e]; exact Rho.upd_same r _ _)
        · exact .inr ⟨x, by omega, hSx, hax, e⟩
  · -- nothing is made here
    have hsame : X.h (p + 1) = X.h p := by
      rcases hh with ⟨_, _, _, h, _⟩ | ⟨_, hs, hq, _, _⟩
      · exact h
      · rcases hk with hk | hk
        · exact (hq hk).1
        · exact absurd ⟨hlt, hk.1, hs⟩ hal
    have hne : ∀ x, p ≤ x → IsAl kind X ops.size x → p + 1 ≤ x := by
      intro x hx hax
      by_cases e : x = p
      · subst e; exact absurd hax hal
      · omega
    refine ⟨r, ?_, I.le, ?_, ?_, ?_, ?_, I.tmp⟩
    · rw [hsame]; exact I.rel
    · rw [hsame]; exact I.keeps
    · intro x hx; rw [hsame]; exact I.pend x (by omega)
    · intro x y lx ly hx h1 h2 hy h3 h4
      exact I.dist x y lx ly (by omega) h1 h2 (by omega) h3 h4
    · intro b l hb
      rcases I.back b l hb with h | ⟨x, hx, hSx, hax, e⟩
      · exact .inl h
      · exact .inr ⟨x, hne x hx hax, hSx, hax, e⟩
theorem Inv.advanceTo (reg : RegOk P ops ds bs kind) (hp : 0 < (X.h 0).nextOf) : ∀ (d : Nat) {p : Nat} {r : Rho}, Inv P ops kind X r0 h0 w0 S p r rS tm w → p + d ≤ ops.size → (∀ x, p ≤ x → x < p + d → kind x = .q ∨ (kind x = .a ∧ S x)) → ∃ r', Inv P ops kind X r0 h0 w0 S (p + d) r' rS tm w
  | 0, p, r, I, _, _ => ⟨r, I⟩
  | d + 1, p, r, I, hle, hk => by
    obtain ⟨r1, I1⟩ := I.advance reg hp (by omega) (hk p (Nat.le_refl _) (by omega))
    obtain ⟨r2, I2⟩ := Inv.advanceTo reg hp d I1 (by omega) (fun x h1 h2 => hk x (by omega) (by omega))
    exact ⟨r2, by rw [show p + (d + 1) = p + 1 + d from by omega]; exact I2⟩
/-- the temporaries behind one operation more -/
theorem Inv.tmp_step (reg : RegOk P ops ds bs kind) (I : Inv P ops kind X r0 h0 w0 S p r rS tm w) (down : ∀ x y, S x → y ∈ bs x → S y) {i : Nat} {o : Oper} (ho : ops[i]? = some o) (hSi : ¬ S i) (hbs : ∀ y ∈ bs i, S y)
    {a : Act} (ha : a.tmps = tm) {rS' : Rho} (hle : rS.le rS') {v' : Value} (hd : ∀ d, o.dst = some d → d < tm.size) (hv : VR rS' (X.v i) v') :
    ∀ n q, q ≤ ops.size → (∀ j oj, ops[j]? = some oj → oj.dst = some n → (j < q ↔ (S j ∨ j = i))) → ∀ x, T.get (X.t q) n = some x → ∃ v, (a.put o.dst v').tmps[n]? = some v ∧ VR rS' x v := by
  intro n q hq hw x hx
  have hlt : i < ops.size := (Array.getElem?_eq_some_iff.1 ho).1
  by_cases hn : o.dst = some n
  · have hiq : i < q := (hw i o ho hn).2 (.inr rfl)
    obtain ⟨g, qq, hc, h1, _⟩ := rec_at reg X ho
    have hno : T.get (X.t q) n = T.get (X.t (i + 1)) n := by
      refine no_writer reg X (by omega) hq ?_
      intro j oj hj1 hj2 hj hdj
      have hdl : n ∈ namesOf o ++ (guardOf (coper P ops o) ++ dstList (coper P ops o)) := by
        rw [hc, hn]; simp [dstList]
      rcases reg.temps i o ho n hdl j oj hj hdj with h | h | h
      · omega
      · have := reg.above i j h; omega
      · rcases (hw j oj hj hdj).1 hj2 with hs | hs
        · exact hSi (down j i hs h)
        · omega
    rw [hno, h1, getD_put, if_pos hn] at hx
    injection hx with hx; subst hx
    refine ⟨v', ?_, hv⟩
    rw [hn]
    have := hd n hn
    simp [Act.put, ha, this]
  · have hold : ∀ j oj, ops[j]? = some oj → oj.dst = some n → (j < q ↔ S j) := by
      intro j oj hj hdj
      rw [hw j oj hj hdj]
      constructor
      · rintro (h | h)
        · exact h
        · subst h; rw [ho] at hj; injection hj with hj; subst hj; exact absurd hdj hn
      · exact .inl
    obtain ⟨v, h1, h2⟩ := I.tmp n q hq hold x hx
    refine ⟨v, ?_, h2.mono hle⟩
    cases hdd : o.dst with
    | none => simpa [Act.put, ha] using h1
    | some d =>
      have : d ≠ n := by rintro rfl; exact hn hdd
      simp [Act.put, ha, Array.getElem?_setIfInBounds, this, h1]
/-- what an operation reads -/
theorem Inv.env (reg : RegOk P ops ds bs kind) (I : Inv P ops kind X r0 h0 w0 S p r rS tm w) (down : ∀ x y, S x → y ∈ bs x → S y) {i : Nat} {o : Oper} (ho : ops[i]? = some o) (hSi : ¬ S i) (hbs : ∀ y ∈ bs i, S y) {l : List Nat}
    (hl : ∀ n ∈ l, n ∈ namesOf o ++ (guardOf (coper P ops o) ++ dstList (coper P ops o))) : TR rS (restrict (X.t i) l) tm := by
  intro n x hx
  obtain ⟨h1, h2⟩ := restrict_get _ _ _ _ hx
  have hlt : i < ops.size := (Array.getElem?_eq_some_iff.1 ho).1
  refine I.tmp n i (Nat.le_of_lt hlt) ?_ x h2
  intro j oj hj hdj
  rcases reg.temps i o ho n (hl n h1) j oj hj hdj with h | h | h
  · subst h; simp [hSi]
  · have := reg.above i j h; simp [this, hbs j h]
  · have := reg.above j i h
    constructor
    · intro h; omega
    · intro h2; exact absurd (down j i h2 h) hSi
end
end
end Go.AM
namespace Go.AM
open Go
variable [Env]
section
variable {P : Program} {ops : Array Oper} {ds : List DOper} {bs : Nat → List Nat} {kind : Nat → DK} {call : CallF} {L : List H}
variable {X : Trace call ds L} {r0 : Rho} {h0 : H} {w0 : World} {S : Nat → Prop} {p : Nat} {r rS : Rho} {tm : Array Value} {w : World}

/-- how far the changes have come -/
structure Front (ops : Array Oper) (kind : Nat → DK) (X : Trace call ds L) (S : Nat → Prop) (p : Nat) : Prop where
  le : p ≤ ops.size
  at_ : L[ecount kind p]? = some (X.h p)
  done : ∀ e, e < p → kind e = .e → S e
  open_ : ∀ e, p ≤ e → e < ops.size → kind e = .e → ¬ S e
  last : p = 0 ∨ (kind (p - 1) = .e ∧ S (p - 1))

/-- a block more, of which nothing is known -/
theorem Rel.allocX {h : H} (hr : Rel P r h w) (O : Go.Obj) : Rel P r h (w.alloc O) ∧ Keeps r h w r h (w.alloc O) := by
  refine ⟨⟨?_, hr.dom, hr.key, hr.inj, hr.tip, hr.dead, hr.pos⟩, ⟨Rho.le_refl r, by simp, rfl, rfl, rfl, Nat.le_refl _, fun blk hb _ => heap_alloc_lt w O hb, fun _ _ h => h⟩⟩
  intro b o hb hv
  obtain ⟨l, hl, hO⟩ := hr.obj b o hb hv
  exact ⟨l, hl, hO.keep (heap_alloc_lt w O hO.blk_lt)⟩
/-- one operation of a real order -/
theorem draw_step (reg : RegOk P ops ds bs kind) (hC : SimCall P call) (hp : 0 < (X.h 0).nextOf) (hm0 : X.m 0 = 0) (hb0 : ∀ n x, T.get (X.t 0) n = some x → belowB (X.h 0).nextOf x = true)
    (I : Inv P ops kind X r0 h0 w0 S p r rS tm w) (F : Front ops kind X S p) (down : ∀ x y, S x → y ∈ bs x → S y) {i : Nat} {o : Oper} (ho : ops[i]? = some o) (hSi : ¬ S i) (hbs : ∀ y ∈ bs i, S y)
    {b : Frame} {a : Act} {k : List Item} {cs : List Frame} {rest : List Nat} (ha : a.tmps = tm) (hd : ∀ d, o.dst = some d → d < tm.size) :
    ∃ p' r' rS' v' w', Steps P (lone (b.atR a (.inRegion ops (i :: rest) :: k)) cs w) (lone (b.atR (a.put o.dst v') (.inRegion ops rest :: k)) cs w') ∧
      Inv P ops kind X r0 h0 w0 (fun j => S j ∨ j = i) p' r' rS' (a.put o.dst v').tmps w' ∧ Front ops kind X (fun j => S j ∨ j = i) p' := by
  have hlt : i < ops.size := (Array.getElem?_eq_some_iff.1 ho).1
  obtain ⟨g, q, hc, h1, h2, h3, h4, hh⟩ := rec_at reg X ho
  have henvG : TR rS (restrict (X.t i) (guardOf (coper P ops o))) tm := I.env reg down ho hSi hbs (fun n hn => List.mem_append_right _ (List.mem_append_left _ hn))
  have henv : TR rS (restrict (X.t i) (namesOf o)) tm := I.env reg down ho hSi hbs (fun n hn => List.mem_append_left _ hn)
  have hgr : wantG (restrict (X.t i) (guardOf (coper P ops o))) g = wantG (X.t i) g := by
    refine wantG_restrict ?_
    rintro d wt rfl
    rw [hc]; simp [guardOf]
  -- an op that is no change does not move the front
  have front_same : kind i ≠ .e → Front ops kind X (fun j => S j ∨ j = i) p := by
    intro hk
    refine ⟨F.le, F.at_, fun e he hke => .inl (F.done e he hke), ?_, ?_⟩
    · rintro e h1 h2 hke (h | rfl)
      · exact F.open_ e h1 h2 hke h
      · exact hk hke
    · rcases F.last with h | ⟨h1, h2⟩
      · exact .inl h
      · exact .inr ⟨h1, .inl h2⟩
  have step_front : kind i = .e → L[ecount kind (i + 1)]? = some (X.h (i + 1)) → Front ops kind X (fun j => S j ∨ j = i) (i + 1) := by
    intro hk hL
    refine ⟨hlt, hL, ?_, ?_, .inr ⟨hk, .inr rfl⟩⟩
    · intro e he hke
      by_cases hei : e = i
      · exact .inr hei
      · exact .inl (hbs e (reg.chain e i (by omega) hlt hke hk (by omega)))
    · rintro e h1 h2 h3 (h | rfl)
      · exact hSi (down e i h (reg.chain i e hlt h2 hk h3 (by omega)))
      · omega
  -- up to a change
  have adv : kind i = .e → ∃ r1, Inv P ops kind X r0 h0 w0 S i r1 rS tm w := by
    intro hk
    have hpi : p ≤ i := by
      rcases Nat.lt_or_ge i p with h | h
      · exact absurd (F.done i h hk) hSi
      · exact h
    obtain ⟨r1, I1⟩ := I.advanceTo reg hp (i - p) (by omega) (by
      intro x hx1 hx2
      cases hkx : kind x with
      | q => exact .inl rfl
      | a => exact .inr ⟨rfl, hbs x (reg.floats x i (by omega) hlt hkx hk (by omega))⟩
      | e => exact absurd (hbs x (reg.chain x i (by omega) hlt hkx hk (by omega))) (F.open_ x hx1 (by omega) hkx))
    exact ⟨r1, by rw [show i = p + (i - p) from by omega]; exact I1⟩
  have hcount := m_count reg X hm0
  rcases hh with ⟨hg, hsk, hv, hsame, hLe⟩ | ⟨hg, hsk, hq, hal, hef⟩
  · -- it is left out
    obtain ⟨hw, _, _⟩ := wantG_ok (ops := ops) (a := a) (by rw [ha]; exact henvG) ho hc (.inr rfl) (by rw [hgr]; exact hg)
    have hst := stepR_op_skip (P := P) (b := b) (a := a) (k := k) (cs := cs) (w := w) (ops := ops) (i := i) (rest := rest) (by rw [ho]; exact hw)
    rw [show (ops[i]?).bind (·.dst) = o.dst from by rw [ho]; rfl] at hst
    have hvr : VR rS (X.v i) undef := by rw [hv]; exact .tup _ _ .nil
    have nal : ∀ x, (S x ∨ x = i) → IsAl kind X ops.size x → S x := by
      rintro x (h | rfl) hx
      · exact h
      · have := hx.2.2; rw [hsk] at this; simp at this
    by_cases hk : kind i = .e
    · obtain ⟨r1, I1⟩ := adv hk
      have ts := I1.tmp_step reg down ho hSi hbs ha (Rho.le_refl rS) hd hvr
      refine ⟨i + 1, r1, rS, undef, w, .one hst, ⟨?_, I1.le, ?_, ?_, ?_, ?_, ts⟩, step_front hk ?_⟩
      · rw [hsame]; exact I1.rel
      · rw [hsame]; exact I1.keeps
      · intro x hx hSx hax; rw [hsame]; exact I1.pend x (by omega) (nal x hSx hax) hax
      · intro x y lx ly hx hSx hax hy hSy hay
        exact I1.dist x y lx ly (by omega) (nal x hSx hax) hax (by omega) (nal y hSy hay) hay
      · intro b' l' hb'
        rcases I1.back b' l' hb' with h | ⟨x, hx, hSx, hax, e⟩
        · exact .inl h
        · refine .inr ⟨x, ?_, .inl hSx, hax, e⟩
          by_cases hxi : x = i
          · subst hxi; exact absurd hSx hSi
          · omega
      · have := hLe hk
        rw [hcount i (Nat.le_of_lt hlt)] at this
        have e : ecount kind (i + 1) = ecount kind i + 1 := by show stepM (kind i) _ = _; rw [hk]; rfl
        rw [e]; exact this
    · have ts := I.tmp_step reg down ho hSi hbs ha (Rho.le_refl rS) hd hvr
      refine ⟨p, r, rS, undef, w, .one hst, ⟨I.rel, I.le, I.keeps, ?_, ?_, ?_, ts⟩, front_same hk⟩
      · intro x hx hSx hax; exact I.pend x hx (nal x hSx hax) hax
      · intro x y lx ly hx hSx hax hy hSy hay
        exact I.dist x y lx ly hx (nal x hSx hax) hax hy (nal y hSy hay) hay
      · intro b' l' hb'
        rcases I.back b' l' hb' with h | ⟨x, hx, hSx, hax, e⟩
        · exact .inl h
        · exact .inr ⟨x, hx, .inl hSx, hax, e⟩
  · cases hk : kind i with
    | q =>
      obtain ⟨_, hqv⟩ := hq hk
      have hqop : quietOp q = true := by have := reg.quiet i o ho hk; rw [hc] at this; exact this
      have hqb : q ≠ .bad := by rintro rfl; simp [quietOp] at hqop
      obtain ⟨hw, _, rfl⟩ := wantG_ok (ops := ops) (a := a) (by rw [ha]; exact henvG) ho hc (.inl hqb) (by rw [hgr]; exact hg)
      have hval := hqv p F.le (fun e he hke hin => by
          rcases Nat.lt_or_ge e p with h | h
          · exact h
          · exact absurd (hbs e hin) (F.open_ e h he hke))
        (fun e he hke hin => hSi (down e i (F.done e he hke) hin)) _ F.at_
      have hrel : Rel P rS ((X.h p).withNext (X.h ops.size).nextOf) w := by
        refine I.rel.withNext I.le (next_mono reg X F.le (Nat.le_refl _)) ?_
        intro b' l' hb'
        rcases I.back b' l' hb' with h | ⟨x, hx, hSx, hax, rfl⟩
        · exact Nat.lt_of_lt_of_le (I.rel.dom _ _ h) (next_mono reg X F.le (Nat.le_refl _))
        · obtain ⟨_, _, _, _, _, _, _, _, e⟩ := al_at reg X hp hax
          have := next_mono reg X (p := x + 1) (q := ops.size) hax.1 (Nat.le_refl _)
          omega
      obtain ⟨v', hst, hvr⟩ := draw_quiet (b := b) (k := k) (cs := cs) (rest := rest) (a := a) hrel (by rw [ha]; exact henv) ho hw hqop (by rw [quiet_next _ _ _ hqop]; exact hval)
      have ts := I.tmp_step reg down ho hSi hbs ha (Rho.le_refl rS) hd hvr
      have nal : ∀ x, (S x ∨ x = i) → IsAl kind X ops.size x → S x := by
        rintro x (h | rfl) hx
        · exact h
        · have := hx.2.1; rw [hk] at this; simp at this
      refine ⟨p, r, rS, v', w, hst, ⟨I.rel, I.le, I.keeps, ?_, ?_, ?_, ts⟩, front_same (by rw [hk]; simp)⟩
      · intro x hx hSx hax; exact I.pend x hx (nal x hSx hax) hax
      · intro x y lx ly hx hSx hax hy hSy hay
        exact I.dist x y lx ly hx (nal x hSx hax) hax hy (nal y hSy hay) hay
      · intro b' l' hb'
        rcases I.back b' l' hb' with h | ⟨x, hx, hSx, hax, e⟩
        · exact .inl h
        · exact .inr ⟨x, hx, .inl hSx, hax, e⟩
    | a =>
      have hai : IsAl kind X ops.size i := ⟨hlt, hk, hsk⟩
      obtain ⟨o', tg, zs, ho', hcop, hv, hnew, hid, hnx⟩ := al_at reg X hp hai
      rw [ho] at ho'; injection ho' with ho'; subst ho'
      have hqb : q ≠ .bad := by
        rintro rfl
        have := hal hk
        simp [allocE] at this
      obtain ⟨hw, _, _⟩ := wantG_ok (ops := ops) (a := a) (by rw [ha]; exact henvG) ho hc (.inl hqb) (by rw [hgr]; exact hg)
      obtain ⟨cells, ty, htg, hcells, hst⟩ := draw_alloc (b := b) (k := k) (cs := cs) (rest := rest) (a := a) (w := w) ho hw hcop
      have hpi : p ≤ i := by
        rcases Nat.lt_or_ge i p with h | h
        · exfalso
          rcases F.last with e | ⟨e1, e2⟩
          · omega
          · have hne : i ≠ p - 1 := by rintro rfl; rw [hk] at e1; simp at e1
            exact hSi (down (p - 1) i e2 (reg.floats i (p - 1) hlt (by have := F.le; omega) hk e1 (by omega)))
        · exact h
      have hnone : rS (idOf X i) = none := by
        cases hx : rS (idOf X i) with
        | none => rfl
        | some l =>
          exfalso
          rcases I.back _ _ hx with h | ⟨x, hxp, hSx, hax, e⟩
          · have := I.rel.dom _ _ h
            have := next_mono reg X hpi (Nat.le_of_lt hlt)
            omega
          · have := id_inj reg X hp hai hax e
            subst this; exact hSi hSx
      have hle := Rho.le_upd rS (idOf X i) ⟨w.heap.size, 0, 0, cells.size⟩ hnone
      have hother : ∀ x, S x → IsAl kind X ops.size x → (rS.upd (idOf X i) ⟨w.heap.size, 0, 0, cells.size⟩) (idOf X x) = rS (idOf X x) := by
        intro x hSx hax
        refine Rho.upd_other rS _ (fun e => ?_)
        have := id_inj reg X hp hax hai e
        subst this; exact hSi hSx
      obtain ⟨hrel', hkp⟩ := I.rel.allocX (.cells cells ty)
      have hvr : VR (rS.upd (idOf X i) ⟨w.heap.size, 0, 0, cells.size⟩) (X.v i) (.pointer (some ⟨w.heap.size, 0, none⟩)) := by
        rw [hv]; exact ptr_new (Rho.upd_same rS _ _)
      have ts := I.tmp_step reg down ho hSi hbs ha hle hd hvr
      refine ⟨p, r, _, _, _, hst, ⟨hrel', Rho.le_trans I.le hle, I.keeps.trans hkp, ?_, ?_, ?_, ts⟩, front_same (by rw [hk]; simp)⟩
      · rintro x hx hSx hax
        by_cases hxi : x = i
        · subst hxi
          refine ⟨_, Rho.upd_same rS _ _, ?_, ?_, I.keeps.size, by simp⟩
          · intro o2 tg2 zs2 ho2 hcop2 r2
            rw [ho] at ho2; injection ho2 with ho2; subst ho2
            rw [hcop] at hcop2; injection hcop2 with hcop2; injection hcop2 with hcop3 hcop4; subst hcop3; subst hcop4
            exact ⟨newRow_rowR htg (hcells r2) 0 cells.size rfl, fun h => absurd h (Nat.lt_irrefl _)⟩
          · intro hlv
            have := liveAt_lt I.rel hlv
            exact absurd this (Nat.lt_irrefl _)
        · have hSx : S x := hSx.resolve_right hxi
          obtain ⟨l, e1, e2, e3, e4, e5⟩ := I.pend x hx hSx hax
          exact ⟨l, by rw [hother x hSx hax]; exact e1, fun o2 tg2 zs2 a1 a2 r2 => (e2 o2 tg2 zs2 a1 a2 r2).keep (heap_alloc_lt w _ e5), e3, e4, by simp; omega⟩
      · intro x y lx ly hx hSx hax hy hSy hay e1 e2 e3
        by_cases hxi : x = i
        · by_cases hyi : y = i
          · omega
          · exfalso
            subst hxi
            have hSy : S y := hSy.resolve_right hyi
            rw [Rho.upd_same] at e1; injection e1 with e1; subst e1
            rw [hother y hSy hay] at e2
            obtain ⟨l, f1, _, _, _, f5⟩ := I.pend y hy hSy hay
            rw [f1] at e2; injection e2 with e2; subst e2
            have e3 : w.heap.size = l.blk := e3
            omega
        · by_cases hyi : y = i
          · exfalso
            subst hyi
            rw [Rho.upd_same] at e2; injection e2 with e2; subst e2
            rw [hother x (hSx.resolve_right hxi) hax] at e1
            obtain ⟨l, f1, _, _, _, f5⟩ := I.pend x hx (hSx.resolve_right hxi) hax
            rw [f1] at e1; injection e1 with e1; subst e1
            have e3 : l.blk = w.heap.size := e3
            omega
          · have hSy : S y := hSy.resolve_right hyi
            have hSx : S x := hSx.resolve_right hxi
            rw [hother x hSx hax] at e1
            rw [hother y hSy hay] at e2
            exact I.dist x y lx ly hx hSx hax hy hSy hay e1 e2 e3
      · intro b' l' hb'
        by_cases e : b' = idOf X i
        · exact .inr ⟨i, hpi, .inr rfl, hai, e⟩
        · rw [Rho.upd_other rS _ e] at hb'
          rcases I.back b' l' hb' with h | ⟨x, hx, hSx, hax, e⟩
          · exact .inl h
          · exact .inr ⟨x, hx, .inl hSx, hax, e⟩
    | e =>
      obtain ⟨⟨pp, hdo⟩, hL⟩ := hef hk
      have hqb : q ≠ .bad := by rintro rfl; simp [doE] at hdo
      obtain ⟨hw, _, rfl⟩ := wantG_ok (ops := ops) (a := a) (by rw [ha]; exact henvG) ho hc (.inl hqb) (by rw [hgr]; exact hg)
      obtain ⟨r1, I1⟩ := adv hk
      have henv1 : TR r1 (restrict (X.t i) (namesOf o)) a.tmps := by
        rw [ha]
        intro n x hx
        obtain ⟨v, hv1, hv2⟩ := henv n x hx
        refine ⟨v, hv1, hv2.cutB (B := (X.h i).nextOf) ?_ (tmps_below reg X hb0 i (Nat.le_of_lt hlt) n x (restrict_get _ _ _ _ hx).2)⟩
        intro b' l' hb1 hb2
        rcases I1.back b' l' hb2 with h | ⟨x', hx', hSx, hax, rfl⟩
        · exact h
        · exfalso
          obtain ⟨_, _, _, _, _, _, _, e, _⟩ := al_at reg X hp hax
          have := next_mono reg X hx' (Nat.le_of_lt hax.1)
          omega
      obtain ⟨r', v', w', hst, hvr, hrel, hkp⟩ := draw_effect (b := b) (k := k) (cs := cs) (rest := rest) hC I1.rel henv1 ho hw hdo
      have hpnone : ∀ x, i + 1 ≤ x → IsAl kind X ops.size x → r' (idOf X x) = none := by
        intro x hx hax
        cases e : r' (idOf X x) with
        | none => rfl
        | some l =>
          exfalso
          have := hrel.dom _ _ e
          obtain ⟨_, _, _, _, _, _, _, e2, _⟩ := al_at reg X hp hax
          have := next_mono reg X hx (Nat.le_of_lt hax.1)
          omega
      have hne : ∀ x, i ≤ x → IsAl kind X ops.size x → i + 1 ≤ x := by
        intro x hx hax
        by_cases e : x = i
        · subst e; have := hax.2.1; rw [hk] at this; simp at this
        · omega
      let rS' : Rho := fun b => match r' b with | some l => some l | none => rS b
      have hS' : ∀ x, i + 1 ≤ x → IsAl kind X ops.size x → rS' (idOf X x) = rS (idOf X x) := by
        intro x hx hax
        show (match r' (idOf X x) with | some l => some l | none => rS (idOf X x)) = _
        rw [hpnone x hx hax]
      have hle' : r'.le rS' := by
        intro b' l' hb'
        show (match r' b' with | some l => some l | none => rS b') = _
        rw [hb']
      have hle : rS.le rS' := by
        intro b' l' hb'
        rcases I1.back b' l' hb' with h | ⟨x, hx, hSx, hax, rfl⟩
        · exact hle' _ _ (hkp.le _ _ h)
        · rw [hS' x (hne x hx hax) hax]; exact hb'
      have ts := I1.tmp_step reg down ho hSi hbs ha hle hd (hvr.mono hle')
      have nal : ∀ x, (S x ∨ x = i) → IsAl kind X ops.size x → S x := by
        rintro x (h | rfl) hx
        · exact h
        · have := hx.2.1; rw [hk] at this; simp at this
      refine ⟨i + 1, r', rS', v', w', hst, ⟨hrel, hle', I1.keeps.trans hkp, ?_, ?_, ?_, ts⟩, step_front hk ?_⟩
      · intro x hx hSx hax
        have hSx := nal x hSx hax
        obtain ⟨l, e1, e2, e3, e4, e5⟩ := I1.pend x (by omega) hSx hax
        refine ⟨l, by rw [hS' x hx hax]; exact e1, ?_, fun hlv => e3 (hkp.back _ e5 hlv), e4, Nat.lt_of_lt_of_le e5 hkp.size⟩
        intro o2 tg2 zs2 a1 a2 r2
        exact (e2 o2 tg2 zs2 a1 a2 r2).keep (hkp.same _ e5 e3)
      · intro x y lx ly hx hSx hax hy hSy hay e1 e2 e3
        rw [hS' x hx hax] at e1
        rw [hS' y hy hay] at e2
        exact I1.dist x y lx ly (by omega) (nal x hSx hax) hax (by omega) (nal y hSy hay) hay e1 e2 e3
      · intro b' l' hb'
        have hb' : (match r' b' with | some l => some l | none => rS b') = some l' := hb'
        cases e : r' b' with
        | some l => rw [e] at hb'; injection hb' with hb'; subst hb'; exact .inl rfl
        | none =>
          rw [e] at hb'
          rcases I1.back b' l' hb' with h | ⟨x, hx, hSx, hax, e'⟩
          · have := hkp.le _ _ h; rw [e] at this; simp at this
          · exact .inr ⟨x, hne x hx hax, .inl hSx, hax, e'⟩
      · rw [hcount i (Nat.le_of_lt hlt)] at hL
        have e : ecount kind (i + 1) = ecount kind i + 1 := by show stepM (kind i) _ = _; rw [hk]; rfl
        rw [e]; exact hL

/-- what is listed -/
def Listed (l : Array Bool) (i : Nat) : Prop := l.getD i false = true
theorem unl_dec {N i : Nat} {l : Array Bool} (hl : l.size = N) (hi : i < N) (hn : ¬ Listed l i) {m : Nat} (h : ((List.range N).filter fun j => !l.getD j false).length ≤ m + 1) :
    ((List.range N).filter fun j => !(l.setIfInBounds i true).getD j false).length ≤ m := by
  have hlt : ((List.range N).filter fun j => !(l.setIfInBounds i true).getD j false).length < ((List.range N).filter fun j => !l.getD j false).length := by
    rw [← List.countP_eq_length_filter, ← List.countP_eq_length_filter]
    have hsplit : ∀ (L : List Nat), i ∈ L → L.countP (fun j => !(l.setIfInBounds i true).getD j false) < L.countP (fun j => !l.getD j false) := by
      have hle : ∀ (L : List Nat), L.countP (fun j => !(l.setIfInBounds i true).getD j false) ≤ L.countP (fun j => !l.getD j false) := by
        intro L
        refine List.countP_mono_left fun x _ hx => ?_
        by_cases e : x = i
        · subst e
          simp [Array.getD_eq_getD_getElem?, hl, hi] at hx
        · simpa [Array.getD_eq_getD_getElem?, Array.getElem?_setIfInBounds, Ne.symm e] using hx
      intro L
      induction L with
      | nil => intro h; simp at h
      | cons x L ih =>
        intro hm
        rw [List.countP_cons, List.countP_cons]
        by_cases e : x = i
        · subst e
          have h1 : (!(l.setIfInBounds x true).getD x false) = false := by simp [Array.getD_eq_getD_getElem?, hl, hi]
          have h2 : (!l.getD x false) = true := by unfold Listed at hn; simpa using hn
          rw [h1, h2]
          have := hle L
          rw [if_neg (by simp), if_pos rfl]; omega
        · have hm : i ∈ L := by simpa [Ne.symm e] using hm
          have := ih hm
          have h1 : (!(l.setIfInBounds i true).getD x false) = (!l.getD x false) := by simp [Array.getD_eq_getD_getElem?, Array.getElem?_setIfInBounds, Ne.symm e]
          rw [h1]; omega
    exact hsplit _ (List.mem_range.2 hi)
  omega
theorem listed_set {N i : Nat} {l : Array Bool} (hl : l.size = N) (hi : i < N) : ∀ j, Listed (l.setIfInBounds i true) j ↔ (Listed l j ∨ j = i) := by
  intro j
  unfold Listed
  by_cases e : j = i
  · subst e; simp [Array.getD_eq_getD_getElem?, hl, hi]
  · simp [Array.getD_eq_getD_getElem?, Array.getElem?_setIfInBounds, Ne.symm e, e]

theorem Inv.congr {S' : Nat → Prop} (hS : ∀ j, S' j ↔ S j) (I : Inv P ops kind X r0 h0 w0 S p r rS tm w) : Inv P ops kind X r0 h0 w0 S' p r rS tm w := by
  have : S' = S := funext fun j => propext (hS j)
  rw [this]; exact I
theorem Front.congr {S' : Nat → Prop} (hS : ∀ j, S' j ↔ S j) (I : Front ops kind X S p) : Front ops kind X S' p := by
  have : S' = S := funext fun j => propext (hS j)
  rw [this]; exact I
/-- a whole real order, from where some of it is done -/
theorem draw_run (reg : RegOk P ops ds bs kind) (hC : SimCall P call) (hp : 0 < (X.h 0).nextOf) (hm0 : X.m 0 = 0) (hb0 : ∀ n x, T.get (X.t 0) n = some x → belowB (X.h 0).nextOf x = true) {n : Nat} (hwf : ∀ (i : Nat) (o : Oper), ops[i]? = some o → ∀ d, o.dst = some d → d < n)
    {b : Frame} {k : List Item} {cs : List Frame} {dfs : List Deferred} : ∀ (fuel tp : Nat) (listed : Array Bool) (p : Nat) (r rS : Rho) (a : Act) (w : World), listed.size = ops.size → ((List.range ops.size).filter fun j => !listed.getD j false).length ≤ fuel →
      Inv P ops kind X r0 h0 w0 (Listed listed) p r rS a.tmps w → Front ops kind X (Listed listed) p → (∀ x y, Listed listed x → y ∈ bs x → Listed listed y) → n ≤ a.tmps.size → a.defers = dfs →
      ∃ p' r' rS' a' w', Steps P (lone (b.atR a (.inRegion ops (Region.linearise.go .any ops fuel tp listed []) :: k)) cs w) (lone (b.atR a' (.inRegion ops [] :: k)) cs w') ∧
        Inv P ops kind X r0 h0 w0 (fun j => j < ops.size) p' r' rS' a'.tmps w' ∧ Front ops kind X (fun j => j < ops.size) p' ∧ n ≤ a'.tmps.size ∧ a'.defers = dfs := by
  have allDone : ∀ (listed : Array Bool), listed.size = ops.size → (∀ j, j < ops.size → Listed listed j) → ∀ j, j < ops.size ↔ Listed listed j := by
    intro listed hl h j
    refine ⟨h j, fun hj => ?_⟩
    unfold Listed at hj
    rcases Nat.lt_or_ge j ops.size with h | h
    · exact h
    · rw [Array.getD_eq_getD_getElem?, Array.getElem?_eq_none (by omega)] at hj; simp at hj
  intro fuel
  induction fuel with
  | zero =>
    intro tp listed p r rS a w hl hf I F down hn hd
    have hall : ∀ j, j < ops.size → Listed listed j := by
      intro j hj
      have : (List.range ops.size).filter (fun j => !listed.getD j false) = [] := List.length_eq_zero_iff.1 (by omega)
      rw [List.filter_eq_nil_iff] at this
      have := this j (List.mem_range.2 hj)
      unfold Listed
      simpa using this
    exact ⟨p, r, rS, a, w, .refl _ _, I.congr (allDone listed hl hall), F.congr (allDone listed hl hall), hn, hd⟩
  | succ fuel ih =>
    intro tp listed p r rS a w hl hf I F down hn hd
    -- is there one that is ready?
    have ready_of : ∀ i, i ∈ Region.ready .any ops listed → i < ops.size ∧ ¬ Listed listed i ∧ ∃ o, ops[i]? = some o ∧ ∀ e ∈ o.after.toList, Region.binds .any e = true → Listed listed e.on := by
      intro i hi
      unfold Region.ready at hi
      rw [List.mem_filter, List.mem_range, Bool.and_eq_true] at hi
      obtain ⟨h1, h2, h3⟩ := hi
      obtain ⟨o, ho⟩ := get_op (ops := ops) h1
      rw [ho] at h3
      simp only [Option.map_some, Option.getD_some, Array.all_eq_true'] at h3
      refine ⟨h1, ?_, o, ho, ?_⟩
      · unfold Listed
        rw [Array.getD_eq_getD_getElem?] at *
        rw [Array.getElem?_eq_getElem (by omega)] at *
        simpa using h2
      · intro e he hb
        have := h3 e (by simpa using he)
        rw [hb] at this
        unfold Listed; simpa using this
    have some_ready : (∃ j, j < ops.size ∧ ¬ Listed listed j) → ∃ i, i ∈ Region.ready .any ops listed := by
      rintro ⟨j, hj, hnj⟩
      -- the first that is not listed
      have : ∀ m, ∀ j, j ≤ m → j < ops.size → ¬ Listed listed j → ∃ i, i < ops.size ∧ ¬ Listed listed i ∧ ∀ x, x < i → Listed listed x := by
        intro m
        induction m with
        | zero => intro j h1 h2 h3; exact ⟨j, h2, h3, fun x hx => by omega⟩
        | succ m ihm =>
          intro j h1 h2 h3
          by_cases hx : ∃ x, x < j ∧ ¬ Listed listed x
          · obtain ⟨x, hx1, hx2⟩ := hx
            exact ihm x (by omega) (by omega) hx2
          · exact ⟨j, h2, h3, fun x hx' => Classical.byContradiction fun hc => hx ⟨x, hx', hc⟩⟩
      obtain ⟨i, hi, hni, hmin⟩ := this j j (Nat.le_refl _) hj hnj
      obtain ⟨o, ho⟩ := get_op (ops := ops) hi
      refine ⟨i, ?_⟩
      unfold Region.ready
      rw [List.mem_filter, List.mem_range, Bool.and_eq_true]
      refine ⟨hi, ?_, ?_⟩
      · unfold Listed at hni
        rw [Array.getD_eq_getD_getElem?] at *
        rw [Array.getElem?_eq_getElem (by omega)] at *
        simpa using hni
      · rw [ho]
        simp only [Option.map_some, Option.getD_some, Array.all_eq_true']
        intro e he
        cases hb : Region.binds .any e with
        | false => rfl
        | true =>
          have h1 := reg.after i o ho e (by simpa using he) hb
          have := hmin e.on (reg.above i _ h1)
          unfold Listed at this
          simpa using this
    simp only [Region.linearise.go]
    change ∃ p' r' rS' a' w', Steps P (lone (b.atR a (.inRegion ops (match (Region.ready .any ops listed)[tp % (Region.ready .any ops listed).length]? with
      | some i => Region.linearise.go .any ops fuel (tp / (Region.ready .any ops listed).length) (listed.setIfInBounds i true) [i]
      | none => [].reverse) :: k)) cs w) _ ∧ _
    cases hi : (Region.ready .any ops listed)[tp % (Region.ready .any ops listed).length]? with
    | none =>
      have hnil : Region.ready .any ops listed = [] := by
        cases hr : Region.ready .any ops listed with
        | nil => rfl
        | cons x xs =>
          rw [hr] at hi
          have hlt : tp % (x :: xs).length < (x :: xs).length := Nat.mod_lt _ (by simp)
          simp at hi
          simp at hlt
          omega
      have hall : ∀ j, j < ops.size → Listed listed j := by
        intro j hj
        refine Classical.byContradiction fun hc => ?_
        obtain ⟨i, hi⟩ := some_ready ⟨j, hj, hc⟩
        rw [hnil] at hi; simp at hi
      exact ⟨p, r, rS, a, w, .refl _ _, I.congr (allDone listed hl hall), F.congr (allDone listed hl hall), hn, hd⟩
    | some i =>
      simp only []
      rw [linearise_go_acc, List.reverse_singleton, List.singleton_append]
      obtain ⟨hlt, hni, o, ho, hedge⟩ := ready_of i (List.mem_of_getElem? hi)
      have hbs : ∀ y ∈ bs i, Listed listed y := by
        intro y hy
        obtain ⟨e, he, hb, h⟩ := reg.from_ i o ho y hy
        have hon := hedge e he hb
        rcases h with rfl | h
        · exact hon
        · exact down _ _ hon h
      obtain ⟨p1, r1, rS1, v1, w1, hst, I1, F1⟩ := draw_step (b := b) (k := k) (cs := cs) (a := a) (rest := Region.linearise.go .any ops fuel (tp / (Region.ready .any ops listed).length) (listed.setIfInBounds i true) []) reg hC hp hm0 hb0 I F down ho hni hbs rfl
        (fun d hd => Nat.lt_of_lt_of_le (hwf i o ho d hd) hn)
      have hset := listed_set (l := listed) hl hlt
      obtain ⟨p2, r2, rS2, a2, w2, hst2, I2, F2, hn2, hd2⟩ := ih (tp / (Region.ready .any ops listed).length) (listed.setIfInBounds i true) p1 r1 rS1 (a.put o.dst v1) w1 (by simpa using hl)
        (unl_dec hl hlt hni hf) (I1.congr hset) (F1.congr hset) (by
          intro x y hx hy
          rw [hset] at hx ⊢
          rcases hx with hx | rfl
          · exact .inl (down x y hx hy)
          · exact .inl (hbs y hy)) (by rw [put_size]; exact hn) (by rw [put_defers]; exact hd)
      exact ⟨p2, r2, rS2, a2, w2, hst.trans hst2, I2, F2, hn2, hd2⟩
end

theorem draw_ok {P : Program} {call : CallF} (hF : Fol P) (hC : SimCall P call) : DrawSim P call := by
  intro n r t f h b a k cs w id ops ds hwf hs hds
  rcases runDraw_normal (call := call) ds 0 [h] [] t f h with e | ⟨tF, fF, hF', e⟩
  · rw [e]; trivial
  rw [e]
  obtain ⟨bs, kind, reg⟩ := regOk_of hds
  obtain ⟨ext, X, x1, x2, x3, x4, x5, x6, _⟩ := trace_ex ds 0 [h] [] t f h tF fF hF' rfl e
  subst x6
  have hwf' : ∀ (i : Nat) (o : Oper), ops[i]? = some o → ∀ d, o.dst = some d → d < n := by
    intro i o ho d hd
    rw [List.all_eq_true] at hwf
    have := hwf o (by have := (Array.getElem?_eq_some_iff.1 ho); obtain ⟨h1, h2⟩ := this; rw [← h2]; simp)
    unfold wfDst at this
    rw [hd] at this
    exact ble_iff.1 this
  have hpos : 0 < (X.h 0).nextOf := by rw [x2]; exact hs.rel.pos.2
  have hb0 : ∀ m x, T.get (X.t 0) m = some x → belowB (X.h 0).nextOf x = true := by
    intro m x hx
    rw [x1] at hx
    obtain ⟨v, _, hv⟩ := hs.tmp m x hx
    rw [x2]
    exact hv.lowB hs.rel.dom
  have hempty : ∀ j, ¬ Listed (Array.replicate ops.size false) j := by
    intro j h
    unfold Listed at h
    rw [Array.getD_eq_getD_getElem?, Array.getElem?_replicate] at h
    split at h <;> simp at h
  have I0 : Inv P ops kind X r h w (Listed (Array.replicate ops.size false)) 0 r r a.tmps w.drew := by
    refine ⟨by rw [x2]; exact hs.rel.drew, Rho.le_refl r, by rw [x2]; exact Keeps.drew r h w, fun x _ hx => absurd hx (hempty x), fun x y lx ly _ hx => absurd hx (hempty x), fun b l hb => .inl hb, ?_⟩
    intro m q hq hw x hx
    have : T.get (X.t q) m = T.get (X.t 0) m := by
      refine no_writer reg X (Nat.zero_le _) hq ?_
      intro i o _ hi ho hd
      exact hempty i ((hw i o ho hd).1 hi)
    rw [this, x1] at hx
    exact hs.tmp m x hx
  have F0 : Front ops kind X (Listed (Array.replicate ops.size false)) 0 := ⟨Nat.zero_le _, by rw [x2]; rfl, fun e he => absurd he (Nat.not_lt_zero _), fun e _ _ _ => hempty e, .inl rfl⟩
  have hsched : Region.schedule (P.follows .mixedOrders) ops (w.tape w.drawn (.order b.fn id)) = Region.linearise.go .any ops ops.size (w.tape w.drawn (.order b.fn id)) (Array.replicate ops.size false) [] := by
    unfold Region.schedule
    rw [hF.mixed]
    rfl
  obtain ⟨p', r', rS', a', w', hst, I, F, hn, hd⟩ := draw_run (b := b) (k := k) (cs := cs) (dfs := a.defers) reg hC hpos x3 hb0 hwf' ops.size (w.tape w.drawn (.order b.fn id)) (Array.replicate ops.size false) 0 r r a w.drew (by simp)
    (Nat.le_trans (List.length_filter_le _ _) (by simp)) I0 F0 (fun x y hx => absurd hx (hempty x)) hs.size rfl
  obtain ⟨rN, IN⟩ := I.advanceTo reg hpos (ops.size - p') (by have := F.le; omega) (by
    intro x h1 h2
    have hx : x < ops.size := by have := F.le; omega
    cases hk : kind x with
    | q => exact .inl rfl
    | a => exact .inr ⟨rfl, hx⟩
    | e => exact absurd hx (F.open_ x h1 hx hk))
  rw [show p' + (ops.size - p') = ops.size from by have := F.le; omega] at IN
  have hlen := reg.len
  rw [hlen] at x4 x5
  have hle : rS'.le rN := by
    intro b' l' hb'
    rcases IN.back b' l' hb' with h | ⟨x, hx, _, hax, _⟩
    · exact h
    · have := hax.1; omega
  have hrel := IN.rel
  have hkeeps := IN.keeps
  rw [x5] at hrel hkeeps
  refine ⟨rN, a', cs, w', .head stepR_region_draw (by rw [hsched]; exact hst.trans (.one stepR_region_end)), ⟨⟨hrel, ?_, hn, Nat.le_trans hs.low hkeeps.size, by rw [hd]; exact hs.defs.keeps hkeeps, hs.pan.mono hkeeps.le, hs.rnd.mono hkeeps.le⟩, hkeeps, CsR.refl _ _, rfl⟩⟩
  intro m x hx
  rw [← x4] at hx
  obtain ⟨v, h1, h2⟩ := IN.tmp m ops.size (Nat.le_refl _) (fun i o ho _ => Iff.rfl) x hx
  exact ⟨v, h1, h2.mono hle⟩
end Go.AM
