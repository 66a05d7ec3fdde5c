/- The abstract run: slicing, literals, lengths: all that is quiet, as one step. -/
import Derived.Test.YtimlldedpbbeoaaGreatXD
namespace Go.Proofs.YtimlldedpbbeoaaGreat
open Go.RowKit
noncomputable section

section
variable {P : Program} {B : Ctx} {σ : Sg} {s : St} {w : World}
def boundV (y d : Nat) : Option Value → Option Nat
  | none => some d
  | some (.int _ i) => if 0 ≤ i ∧ i ≤ y then some i.toNat else none
  | some _ => none
def VRo (σ : Sg) : Option Value → Option Value → Prop
  | none, none => True
  | some v, some v' => VR σ v v'
  | _, _ => False
theorem boundV_ok {y d r : Nat} {o o' : Option Value} (h : boundV y d o = some r) (ho : VRo σ o o') : (o' = none ∧ o = none ∧ r = d) ∨ ∃ k i, o' = some (.int k i) ∧ o = some (.int k i) ∧ 0 ≤ i ∧ i ≤ y ∧ r = i.toNat := by
  unfold boundV at h
  split at h
  · cases o' with
    | none => cases h; exact .inl ⟨rfl, rfl, rfl⟩
    | some v => exact ho.elim
  · rename_i k i
    cases o' with
    | none => exact ho.elim
    | some v =>
      have hv : VR σ (.int k i) v := ho
      cases hv
      split at h
      · rename_i hb
        cases h
        exact .inr ⟨k, i, rfl, rfl, hb.1, hb.2, rfl⟩
      · cases h
  · cases h
theorem bound_run {k : IntKind} {i : Int} {y : Nat} (c : BoundsCode) (h : 0 ≤ i) (h2 : i ≤ y) : (Instr.sliceBound (.int k i) y c).run P w = .ok i.toNat w := by
  simp [Instr.sliceBound, asIntOf, h, h2]
/-- The three bounds. -/
def bndV (n m0 : Nat) (lo hi mx : Option Value) : Option (Nat × Nat × Nat) :=
  match mx, hi with
  | some _, none => none
  | _, _ =>
    match boundV m0 m0 mx with
    | some m => match boundV m n hi with
      | some h => match boundV h 0 lo with
        | some l => some (l, h, m)
        | none => none
      | none => none
    | none => none
theorem bndV_ok {b : Bool} {n m0 m0' l h m : Nat} {lo hi mx lo' hi' mx' : Option Value} (hm0 : m0 ≤ m0') (hb : bndV n m0 lo hi mx = some (l, h, m)) (hl : VRo σ lo lo') (hh : VRo σ hi hi') (hx : VRo σ mx mx') :
    (Instr.sliceBounds b n m0' lo' hi' mx').run P w = .ok (l, h, if mx = none then m0' else m) w ∧ l ≤ h ∧ (mx = none → hi = none → h = n) ∧ (mx = none → m = m0) ∧ (hi ≠ none → h ≤ m) ∧ (mx ≠ none → m ≤ m0) ∧ (mx ≠ none → hi ≠ none) := by
  unfold bndV at hb
  split at hb
  · cases hb
  · rename_i hne
    split at hb
    · rename_i m1 hm1
      split at hb
      · rename_i h1 hh1
        split at hb
        · rename_i l1 hl1
          cases hb
          rcases boundV_ok hm1 hx with ⟨rfl, rfl, rfl⟩ | ⟨km, im, rfl, rfl, am, bm, rfl⟩
          · rcases boundV_ok hh1 hh with ⟨rfl, rfl, rfl⟩ | ⟨kh, ih, rfl, rfl, ah, bh, rfl⟩
            · rcases boundV_ok hl1 hl with ⟨rfl, rfl, rfl⟩ | ⟨kl, il, rfl, rfl, al, bl, rfl⟩
              · exact ⟨by simp [Instr.sliceBounds], by omega, fun _ _ => rfl, fun _ => rfl, fun h => absurd rfl h, fun h => absurd rfl h, fun h => absurd rfl h⟩
              · exact ⟨by simp [Instr.sliceBounds, bound_run _ al bl], by omega, fun _ _ => rfl, fun _ => rfl, fun h => absurd rfl h, fun h => absurd rfl h, fun h => absurd rfl h⟩
            · have bh' : ih ≤ (m0' : Int) := by omega
              rcases boundV_ok hl1 hl with ⟨rfl, rfl, rfl⟩ | ⟨kl, il, rfl, rfl, al, bl, rfl⟩
              · exact ⟨by simp [Instr.sliceBounds, bound_run _ ah bh'], by omega, fun _ h => (nomatch h), fun _ => rfl, fun _ => by omega, fun h => absurd rfl h, fun h => absurd rfl h⟩
              · exact ⟨by simp [Instr.sliceBounds, bound_run _ ah bh', bound_run _ al bl], by omega, fun _ h => (nomatch h), fun _ => rfl, fun _ => by omega, fun h => absurd rfl h, fun h => absurd rfl h⟩
          · have bm' : im ≤ (m0' : Int) := by omega
            rcases boundV_ok hh1 hh with ⟨rfl, rfl, rfl⟩ | ⟨kh, ih, rfl, rfl, ah, bh, rfl⟩
            · exact absurd rfl (hne _ rfl)
            · rcases boundV_ok hl1 hl with ⟨rfl, rfl, rfl⟩ | ⟨kl, il, rfl, rfl, al, bl, rfl⟩
              · exact ⟨by simp [Instr.sliceBounds, bound_run _ am bm', bound_run _ ah bh], by omega, fun h => (nomatch h), fun h => (nomatch h), fun _ => by omega, fun _ => by omega, fun _ h => (nomatch h)⟩
              · exact ⟨by simp [Instr.sliceBounds, bound_run _ am bm', bound_run _ ah bh, bound_run _ al bl], by omega, fun h => (nomatch h), fun h => (nomatch h), fun _ => by omega, fun _ => by omega, fun _ h => (nomatch h)⟩
        · cases hb
      · cases hb
    · cases hb
/-- How much room a grown slice has at least. -/
def leastV (P : Program) (hp : Tr AObj) : Value → Nat
  | .slice (some ⟨x, _, none⟩) _ c => match hp.get x with
    | some (.row cs e none) => cs.length / P.cellsOf e - (c - grownMark)
    | _ => 0
  | _ => 0
def sliceV (P : Program) (lb : Nat) (t : TypeId) (x : Value) (lo hi mx : Option Value) : Option Value :=
  match P.underlying t, x with
  | some .string, .string u => if mx.isSome then none else
    match bndV u.size u.size lo hi none with
    | some (l, h, _) => some (.string (u.extract l h))
    | none => none
  | some (.slice e), .slice none n c =>
    match bndV n c lo hi mx, P.info? e with
    | some (l, h, m), some _ => some (.slice none (h - l) (m - l))
    | _, _ => none
  | some (.slice e), .slice (some ⟨x, o, none⟩) n c =>
    match P.info? e with
    | some ie =>
      if anyMark ≤ c then none else
      if grownMark ≤ c then
        match bndV n (max n lb) lo hi mx with
        | some (l, h, m) => if mx.isSome then (if m < grownMark then some (.slice (some ⟨x, if m = l then o else o + l * ie.size, none⟩) (h - l) (m - l)) else none) else
          if l = 0 then some (.slice (some ⟨x, o, none⟩) h c) else
          if l < max n lb then (if c + l < anyMark then some (.slice (some ⟨x, o + l * ie.size, none⟩) (h - l) (c + l)) else none) else
          if h = l then some (.slice (some ⟨x, o, none⟩) 0 anyMark) else none
        | none => none
      else
        match bndV n c lo hi mx with
        | some (l, h, m) => if h ≤ m then some (.slice (some ⟨x, if m = l then o else o + l * ie.size, none⟩) (h - l) (m - l)) else none
        | none => none
    | none => none
  | some (.array n e), .pointer (some ⟨x, o, none⟩) =>
    match P.info? e with
    | some ie => match bndV n n lo hi mx with
      | some (l, h, m) => if h ≤ m ∧ m < grownMark then some (.slice (some ⟨x, if m = l then o else o + l * ie.size, none⟩) (h - l) (m - l)) else none
      | none => none
    | none => none
  | _, _ => none
theorem addr_if (m l b o k : Nat) : (if m = l then (⟨b, o, none⟩ : Addr) else (⟨b, o, none⟩ : Addr).add k) = ⟨b, if m = l then o else o + k, none⟩ := by
  split <;> simp [add_addr]
theorem addr_if2 (m l b o k : Nat) : (if m = l then some (⟨b, o, none⟩ : Addr) else some ((⟨b, o, none⟩ : Addr).add k)) = some ⟨b, if m = l then o else o + k, none⟩ := by
  split <;> simp [add_addr]
theorem sliceV_ok {lb : Nat} {t : TypeId} {x x' r : Value} {lo hi mx lo' hi' mx' : Option Value} (h : sliceV P lb t x lo hi mx = some r) (hlb : ∀ a n c a' n' c', x = .slice a n c → x' = .slice a' n' c' → grownMark ≤ c → c < anyMark → lb ≤ c') (hx : VR σ x x') (hl : VRo σ lo lo') (hh : VRo σ hi hi') (hm : VRo σ mx mx') : ∃ r', (Instr.sliceAt t x' lo' hi' mx').run P w = .ok r' w ∧ VR σ r r' := by
  unfold sliceV at h
  split at h
  · rename_i u hu
    cases hx
    split at h
    · cases h
    · rename_i hmx
      have hmx : mx = none := by simpa using hmx
      subst hmx
      cases mx' with
      | some v => exact hm.elim
      | none =>
      split at h
      · rename_i l h' m hb
        cases h
        obtain ⟨q, _⟩ := bndV_ok (b := false) (P := P) (w := w) (m0' := u.size) (Nat.le_refl _) hb hl hh hm
        refine ⟨_, ?_, .string _⟩
        simp [Instr.sliceAt, run_underlying hu, Instr.slice, q]
      · cases h
  · rename_i e n c hu
    cases hx
    split at h
    · rename_i l h' m ie hb hi1
      cases h
      obtain ⟨q, _, _, hmm, _⟩ := bndV_ok (b := true) (P := P) (w := w) (m0' := c) (Nat.le_refl _) hb hl hh hm
      have hif : (if mx = none then c else m) = m := by
        split
        · exact (hmm ‹_›).symm
        · rfl
      rw [hif] at q
      refine ⟨.slice none (h' - l) (m - l), ?_, .nils _ _⟩
      simp [Instr.sliceAt, run_underlying hu, Instr.slice, q, info_run hi1]
    · cases h
  · rename_i e x o n c hu
    split at h
    · rename_i ie hti
      split at h
      · cases h
      · rename_i hany
        cases hx with
        | empty _ _ _ _ hc => exact absurd hc hany
        | sl _ _ _ _ b κ c' hxs hc _ hn =>
        split at h
        · rename_i hgr
          have hc' : c' + (c - grownMark) = κ := by simpa [CapR, hany, hgr] using hc
          split at h
          · rename_i l h' m hb
            obtain ⟨q, q1, q2, q3, q4, q5, q6⟩ := bndV_ok (b := true) (P := P) (w := w) (m0' := c') (Nat.max_le.2 ⟨hn, hlb _ _ _ _ _ _ rfl rfl hgr (Nat.lt_of_not_le hany)⟩) hb hl hh hm
            have hlc : max n lb ≤ c' := Nat.max_le.2 ⟨hn, hlb _ _ _ _ _ _ rfl rfl hgr (Nat.lt_of_not_le hany)⟩
            split at h
            · rename_i hsome
              have hne : mx ≠ none := by intro e; rw [e] at hsome; cases hsome
              split at h
              · rename_i hmg
                cases h
                rw [if_neg hne] at q
                refine ⟨.slice (some ⟨b, if m = l then o else o + l * ie.size, none⟩) (h' - l) (m - l), ?_, .sl _ _ _ _ _ κ _ hxs ?_ (by unfold anyMark; unfold grownMark at hmg; omega) (by have := q4 (q6 hne); omega)⟩
                · simp [Instr.sliceAt, run_underlying hu, Instr.slice, q, info_run hti, addr_if2]
                · unfold CapR
                  rw [if_neg (by unfold anyMark; unfold grownMark at hmg; omega), if_neg (by omega)]
              · cases h
            · rename_i hsome
              have hmn : mx = none := by simpa using hsome
              rw [if_pos hmn] at q
              have hhn : h' ≤ c' := by
                cases hi with
                | none => rw [q2 hmn rfl]; exact hn
                | some v => have := q4 (by simp); rw [q3 hmn] at this; omega
              split at h
              · rename_i hl0
                cases h; subst hl0
                refine ⟨.slice (some ⟨b, o, none⟩) h' c', ?_, .sl _ _ _ _ _ κ _ hxs (by simpa [CapR, hany, hgr] using hc') (by omega) (by omega)⟩
                simp [Instr.sliceAt, run_underlying hu, Instr.slice, q, info_run hti, add_addr]
              · rename_i hl0
                split at h
                · rename_i hln
                  split at h
                  · rename_i hcl
                    cases h
                    refine ⟨.slice (some ⟨b, o + l * ie.size, none⟩) (h' - l) (c' - l), ?_, .sl _ _ _ _ _ κ _ hxs ?_ hcl (by omega)⟩
                    · have : ¬ c' = l := by omega
                      simp [Instr.sliceAt, run_underlying hu, Instr.slice, q, info_run hti, add_addr, this]
                    · unfold CapR
                      rw [if_neg (by omega), if_pos (by omega)]
                      omega
                  · cases h
                · rename_i hln
                  split at h
                  · rename_i hhl
                    cases h
                    subst hhl
                    refine ⟨.slice (some (if c' = h' then ⟨b, o, none⟩ else ⟨b, o + h' * ie.size, none⟩)) 0 (c' - h'), ?_, .empty _ _ _ _ (Nat.le_refl _)⟩
                    simp [Instr.sliceAt, run_underlying hu, Instr.slice, q, info_run hti, add_addr]
                    split <;> rfl
                  · cases h
          · cases h
        · rename_i hgr
          have hc' : c' = c := by simpa [CapR, hany, hgr] using hc
          subst hc'
          split at h
          · rename_i l h' m hb
            obtain ⟨q, q1, q2, q3, q4, q5, q6⟩ := bndV_ok (b := true) (P := P) (w := w) (m0' := c') (Nat.le_refl _) hb hl hh hm
            have hif : (if mx = none then c' else m) = m := by
              split
              · exact (q3 ‹_›).symm
              · rfl
            rw [hif] at q
            have hmc : m ≤ c' := by
              by_cases hmx : mx = none
              · rw [q3 hmx]; exact Nat.le_refl _
              · exact q5 hmx
            split at h
            · rename_i hhm
              cases h
              refine ⟨.slice (some ⟨b, if m = l then o else o + l * ie.size, none⟩) (h' - l) (m - l), ?_, .sl _ _ _ _ _ κ _ hxs ?_ (by omega) (by omega)⟩
              · simp [Instr.sliceAt, run_underlying hu, Instr.slice, q, info_run hti, addr_if2]
              · unfold CapR
                rw [if_neg (by omega), if_neg (by omega)]
            · cases h
          · cases h
    · cases h
  · rename_i n e x o hu
    cases hx with
    | ptr _ _ b κ hxs =>
    split at h
    · rename_i ie hti
      split at h
      · rename_i l h' m hb
        obtain ⟨q, q1, q2, q3, q4, q5, q6⟩ := bndV_ok (b := false) (P := P) (w := w) (m0' := n) (Nat.le_refl _) hb hl hh hm
        have hif : (if mx = none then n else m) = m := by
          split
          · exact (q3 ‹_›).symm
          · rfl
        rw [hif] at q
        split at h
        · rename_i hhm
          cases h
          refine ⟨.slice (some ⟨b, if m = l then o else o + l * ie.size, none⟩) (h' - l) (m - l), ?_, .sl _ _ _ _ _ κ _ hxs ?_ (by unfold anyMark; have := hhm.2; unfold grownMark at this; omega) (by omega)⟩
          · simp [Instr.sliceAt, run_underlying hu, Instr.sureAddr, q, info_run hti, addr_if]
          · unfold CapR
            have := hhm.2
            rw [if_neg (by unfold anyMark; unfold grownMark at this; omega), if_neg (by omega)]
        · cases h
      · cases h
    · cases h
  · cases h
def lenV (P : Program) (h : Tr AObj) (t : TypeId) : Value → Option Value
  | .string u => match P.underlying t with
    | some .string => some (.int .i64 u.size)
    | _ => none
  | .slice _ n _ => match P.underlying t with
    | some (.slice _) => some (.int .i64 n)
    | _ => none
  | .float .f64 c => match P.underlying t with
    | some .string => some (.complex .f64 (lowOf c + 9223372036854775808) (highOf c + 9223372036854775808))
    | _ => none
  | .complex .f32 _ c => match P.underlying t with
    | some (.slice _) => some (.complex .f64 (lowOf c + 9223372036854775808) (highOf c + 9223372036854775808))
    | _ => none
  | .float .f32 0 => match P.underlying t with
    | some (.chan _ _) => some (.int .i64 0)
    | _ => none
  | .float .f32 (x + 1) => match P.underlying t, h.get x with
    | some (.chan _ _), some (.chan _ buf) => some (.int .i64 buf.length)
    | _, _ => none
  | .map none => match P.underlying t with
    | some (.map _ _) => some (.int .i64 0)
    | _ => none
  | .map (some x) => match P.underlying t, h.get x with
    | some (.map _ _), some (.map es _) => some (.int .i64 es.length)
    | _, _ => none
  | .agg _ => match P.underlying t with
    | some (.array n _) => some (.int .i64 n)
    | _ => none
  | _ => none
theorem lenV_ok (hi : Inv P B σ s w) {t ty : TypeId} {ts : Array TypeId} {x x' r : Value} (h : lenV P s.h t x = some r) (hx : VR σ x x') (ht : ts[0]? = some t) : ∃ r', (Builtin.len_ ts ty #[x']).run P w = .ok r' w ∧ VR σ r r' := by
  unfold lenV at h
  split at h
  · cases hx
    split at h
    · rename_i hu; cases h; exact ⟨_, by simp [Builtin.len_, ht, run_underlying hu, goInt], .int _ _⟩
    · cases h
  · cases hx <;>
    (split at h
     · rename_i hu; cases h; exact ⟨_, by simp [Builtin.len_, ht, run_underlying hu, goInt], .int _ _⟩
     · cases h)
  · cases hx with
    | strc _ u h1 h2 =>
    split at h
    · rename_i hu; cases h; exact ⟨.int .i64 u.size, by simp [Builtin.len_, ht, run_underlying hu, goInt], .ivl _ _ _ (by omega) (by omega)⟩
    · cases h
  · cases hx with
    | slc _ _ a n c' h0 h1 h2 =>
    split at h
    · rename_i hu; cases h; exact ⟨.int .i64 n, by simp [Builtin.len_, ht, run_underlying hu, goInt], .ivl _ _ _ (by omega) (by omega)⟩
    · cases h
  · cases hx
    split at h
    · rename_i hu; cases h; exact ⟨_, by simp [Builtin.len_, ht, run_underlying hu, goInt], .int _ _⟩
    · cases h
  · cases hx with
    | chanr x b κ hxs =>
    split at h
    · rename_i cp buf hu hg
      cases h
      obtain ⟨b1, κ1, q1, _, buf', s1, r1, q3, q4⟩ := hi.live _ _ hg
      rw [hxs] at q1; cases q1
      have hl : buf'.size = buf.length := by have := q4.1; simpa using this.symm
      exact ⟨_, by simp [Builtin.len_, ht, run_underlying hu, goInt, getObj, Sem.run, q3, hl], .int _ _⟩
    · cases h
  · cases hx
    split at h
    · rename_i hu; cases h; exact ⟨_, by simp [Builtin.len_, ht, run_underlying hu, goInt], .int _ _⟩
    · cases h
  · cases hx with
    | map x b κ hxs =>
    split at h
    · rename_i es clock hu hg
      cases h
      obtain ⟨b1, κ1, q1, _, es', q3, q4, _⟩ := hi.live _ _ hg
      rw [hxs] at q1; cases q1
      exact ⟨_, by simp [Builtin.len_, ht, run_underlying hu, goInt, getObj, Sem.run, q3, q4], .int _ _⟩
    · cases h
  · obtain ⟨c', rfl, hc⟩ := hx.of_agg
    split at h
    · rename_i hu; cases h; exact ⟨_, by simp [Builtin.len_, ht, run_underlying hu, goInt], .int _ _⟩
    · cases h
  · cases h
def capV (P : Program) (h : Tr AObj) (t : TypeId) : Value → Option Value
  | .slice none _ c => match P.underlying t with
    | some (.slice _) => some (.int .i64 c)
    | _ => none
  | .slice (some _) _ c => if c < grownMark then match P.underlying t with
    | some (.slice _) => some (.int .i64 c)
    | _ => none else none
  | .float .f32 (x + 1) => match P.underlying t, h.get x with
    | some (.chan _ _), some (.chan c _) => some (.int .i64 c)
    | _, _ => none
  | _ => none
theorem capV_ok (hi : Inv P B σ s w) {t ty : TypeId} {ts : Array TypeId} {x x' r : Value} (h : capV P s.h t x = some r) (hx : VR σ x x') (ht : ts[0]? = some t) : (Builtin.cap_ ts ty #[x']).run P w = .ok r w ∧ VR σ r r := by
  unfold capV at h
  split at h
  · cases hx
    split at h
    · rename_i hu; cases h; exact ⟨by simp [Builtin.cap_, ht, run_underlying hu, goInt], .int _ _⟩
    · cases h
  · split at h
    · rename_i hg
      split at h
      · rename_i hu
        cases h
        cases hx with
        | sl _ _ _ _ b κ c' hxs hc _ hn =>
          unfold CapR at hc
          rw [if_neg (by unfold anyMark; unfold grownMark at hg; omega), if_neg (by omega)] at hc
          subst hc
          exact ⟨by simp [Builtin.cap_, ht, run_underlying hu, goInt], .int _ _⟩
        | empty _ _ _ _ hc => exact absurd hc (by unfold anyMark; unfold grownMark at hg; omega)
      · cases h
    · cases h
  · cases hx with
    | chanr x b κ hxs =>
    split at h
    · rename_i cp buf hu hg
      cases h
      obtain ⟨b1, κ1, q1, _, buf', s1, r1, q3, q4⟩ := hi.live _ _ hg
      rw [hxs] at q1; cases q1
      exact ⟨by simp [Builtin.cap_, ht, run_underlying hu, goInt, getObj, Sem.run, q3], .int _ _⟩
    · cases h
  · cases h
/-- What is built of parts. -/
def partsR (σ : Sg) (a b : List (Nat × Value)) : Prop := a.length = b.length ∧ ∀ (i : Nat) (x y : Nat × Value), a[i]? = some x → b[i]? = some y → x.1 = y.1 ∧ VR σ x.2 y.2
theorem vrs_arr_set {σ : Sg} {c c' : Array Value} (h : VRs σ c.toList c'.toList) (n : Nat) {v v' : Value} (hv : VR σ v v') : VRs σ (c.setIfInBounds n v).toList (c'.setIfInBounds n v').toList := by
  rw [Array.toList_setIfInBounds, Array.toList_setIfInBounds]
  exact h.set n hv
theorem fold_ok (off : Nat) : ∀ (l l' : List Value) (k : Nat) (c c' : Array Value), VRs σ l l' → VRs σ c.toList c'.toList →
    VRs σ ((l.zipIdx k).foldl (fun cs (x : Value × Nat) => cs.setIfInBounds (off + x.2) x.1) c).toList ((l'.zipIdx k).foldl (fun cs (x : Value × Nat) => cs.setIfInBounds (off + x.2) x.1) c').toList
  | [], l', k, c, c', h, hc => by
    have : l' = [] := by have := h.1; exact List.eq_nil_of_length_eq_zero this.symm
    subst this
    exact hc
  | v :: l, l', k, c, c', h, hc => by
    obtain ⟨v', r, rfl, h1, h2⟩ := h.uncons
    exact fold_ok off l r (k + 1) _ _ h2 (vrs_arr_set hc _ h1)
theorem fill_ok (place : Nat → Option (Nat × Nat)) : ∀ (ps ps' : List (Nat × Value)) (c c' r : Array Value), Instr.fill place c ps = some r → partsR σ ps ps' → VRs σ c.toList c'.toList → ∃ r', Instr.fill place c' ps' = some r' ∧ VRs σ r.toList r'.toList
  | [], ps', c, c', r, h, hp, hc => by
    have : ps' = [] := List.eq_nil_of_length_eq_zero hp.1.symm
    subst this
    simp only [Instr.fill, Option.some.injEq] at h
    subst h
    exact ⟨c', rfl, hc⟩
  | (i, v) :: ps, ps', c, c', r, h, hp, hc => by
    cases ps' with
    | nil => exact absurd hp.1 (by simp)
    | cons y ps' =>
      obtain ⟨j, v'⟩ := y
      obtain ⟨hij, hv⟩ := hp.2 0 (i, v) (j, v') (by simp) (by simp)
      have hij : i = j := hij
      subst hij
      have hv : VR σ v v' := hv
      have hp' : partsR σ ps ps' := ⟨by have := hp.1; simpa using this, fun k x y a b => hp.2 (k + 1) x y (by simpa using a) (by simpa using b)⟩
      have hvc := hv.cells
      have e1 : v.cells.size = v'.cells.size := by have := hvc.1; simpa using this
      have e2 : c.size = c'.size := by have := hc.1; simpa using this
      unfold Instr.fill at h ⊢
      split at h
      · cases h
      · rename_i off size hpl
        split at h
        · cases h
        · rename_i hsz
          rw [← e1, ← e2, if_neg hsz]
          refine fill_ok place ps ps' _ _ r h hp' ?_
          have := fold_ok (σ := σ) off v.cells.toList v'.cells.toList 0 c c' hvc hc
          rw [← Array.foldl_toList, ← Array.foldl_toList, Array.toList_zipIdx, Array.toList_zipIdx]
          exact this
/-- A channel that is nil has a name of its own. -/
def absC : Value → Value
  | .chan none => .float .f32 0
  | v => v
def flatC : Value → Bool
  | .chan none => true
  | v => flat 9 v
theorem absC_vr {σ : Sg} {v : Value} (h : flatC v = true) : VR σ (absC v) v := by
  unfold flatC at h
  split at h
  · exact .nilc
  · rename_i hne
    have : absC v = v := by
      unfold absC
      split
      · exact absurd rfl hne
      · rfl
    rw [this]
    exact flat_vr 9 v h
theorem absC_vrs {σ : Sg} : ∀ {l : List Value}, l.all flatC = true → VRs σ (l.map absC) l
  | [], _ => VRs.nil σ
  | v :: l, h => by
    simp only [List.all_cons, Bool.and_eq_true] at h
    exact VRs.cons (absC_vr h.1) (absC_vrs h.2)
def builtC (P : Program) (t : TypeId) (parts : List (Nat × Value)) : Option (Array Value) :=
  match P.info? t, P.underlying t with
  | some it, some (.array _ e) =>
    match it.zero, P.info? e with
    | some z, some ie => Instr.fill (fun i => some (i * ie.size, ie.size)) (z.cells.toList.map absC).toArray parts
    | _, _ => none
  | some it, some (.struct fields) =>
    match it.zero, fields.toList.mapM (fun f => (P.info? f.type).map fun i => (f.offset, i.size)) with
    | some z, some places => Instr.fill (places.toArray[·]?) (z.cells.toList.map absC).toArray parts
    | _, _ => none
  | _, _ => none
def buildV (P : Program) (t : TypeId) (ps : List (Nat × Value)) : Option Value :=
  match P.info? t with
  | some i => match i.zero with
    | some z => if flat 9 (.agg z.cells) then (P.built t ps).map fun c => .agg c else if z.cells.toList.all flatC then (builtC P t ps).map fun c => .agg c else none
    | none => none
  | none => none
theorem buildV_ok {t : TypeId} {ps : List (Nat × Value)} {ps' : Array (Nat × Value)} {r : Value} (h : buildV P t ps = some r) (hp : partsR σ ps ps'.toList) : ∃ r', (Instr.build t ps').run P w = .ok r' w ∧ VR σ r r' := by
  unfold buildV at h
  split at h
  · rename_i i hti
    split at h
    · rename_i z hz
      split at h
      · rename_i hf
        have hzz : VRs σ z.cells.toList z.cells.toList := by
          obtain ⟨c', h1, h2⟩ := (flat_vr (σ := σ) 9 _ hf).of_agg
          cases h1; exact h2
        cases hb : P.built t ps with
        | none => simp [hb] at h
        | some c =>
          simp only [hb, Option.map_some, Option.some.injEq] at h
          subst h
          have : ∃ c', P.built t ps'.toList = some c' ∧ VRs σ c.toList c'.toList := by
            unfold Program.built at hb ⊢
            rw [hti] at hb ⊢
            split at hb
            · rename_i it e h1 h2
              cases h1
              simp only [hz] at hb ⊢
              split at hb
              · rename_i z1 ie h3 h4
                cases h3
                exact fill_ok _ _ _ _ _ _ hb hp hzz
              · cases hb
            · rename_i it fs h1 h2
              cases h1
              simp only [hz] at hb ⊢
              split at hb
              · rename_i z1 pl h3 h4
                cases h3
                exact fill_ok _ _ _ _ _ _ hb hp hzz
              · cases hb
            · cases hb
          obtain ⟨c', h1, h2⟩ := this
          exact ⟨_, run_build w t ps' c' h1, .agg _ _ (by have := h2.1; simpa using this) (fun i v v' a b => h2.2 i v v' (by simpa using a) (by simpa using b))⟩
      · split at h
        · rename_i hf
          have hzz : VRs σ (z.cells.toList.map absC).toArray.toList z.cells.toList := by simpa using absC_vrs (σ := σ) hf
          cases hb : builtC P t ps with
          | none => simp [hb] at h
          | some c =>
            simp only [hb, Option.map_some, Option.some.injEq] at h
            subst h
            have : ∃ c', P.built t ps'.toList = some c' ∧ VRs σ c.toList c'.toList := by
              unfold builtC at hb
              unfold Program.built
              rw [hti] at hb ⊢
              split at hb
              · rename_i it e h1 h2
                cases h1
                simp only [hz] at hb
                split at hb
                · rename_i z1 ie h3 h4
                  cases h3
                  simp only [h2, hz, h4]
                  exact fill_ok _ _ _ _ _ _ hb hp hzz
                · cases hb
              · rename_i it fs h1 h2
                cases h1
                simp only [hz] at hb
                split at hb
                · rename_i z1 pl h3 h4
                  cases h3
                  simp only [h2, hz, h4]
                  exact fill_ok _ _ _ _ _ _ hb hp hzz
                · cases hb
              · cases hb
            obtain ⟨c', h1, h2⟩ := this
            exact ⟨_, run_build w t ps' c' h1, .agg _ _ (by have := h2.1; simpa using this) (fun i v v' a b => h2.2 i v v' (by simpa using a) (by simpa using b))⟩
        · cases h
    · cases h
  · cases h
end
end
end Go.Proofs.YtimlldedpbbeoaaGreat
