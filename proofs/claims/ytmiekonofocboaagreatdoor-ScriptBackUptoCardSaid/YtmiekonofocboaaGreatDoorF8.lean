/- The evaluator, part 8: append, copy, clear, texts to bytes. -/
import Derived.Test.YtmiekonofocboaaGreatDoorF7
import Derived.Lib.AppendStr
import Derived.Lib.ConvBytes
set_option linter.unusedVariables false
set_option linter.unusedSectionVars false
set_option linter.unusedSimpArgs false
namespace Go.AM
open Go Go.RowKit Go.Eng

section
variable {P : Program} {w : World}
def NotInt (d : TypeDesc) : Prop := (∃ k, d = .slice k) ∨ d = .string
theorem run_app_room {t u ty e : TypeId} {i : TypeInfo} {d : TypeDesc} (ht : P.underlying t = some (.slice e)) (hu : P.underlying u = some d) (hd : NotInt d) (hi : P.info? e = some i) {x : Value} {m : Nat} {news : List Value}
    (hlen : (Builtin.lenOf x).run P w = .ok m w) (hfirst : (Builtin.firstCells i.size m x).run P w = .ok news.toArray w) {g off sLen sCap : Nat} {cur : Array Value} {et : TypeId} {fz : Nat × Nat} (hg : w.heap[g]? = some (.cells cur et fz)) (hz : FrOk fz cur.size)
    (hroom : sLen + m ≤ sCap) (hs : off + sLen * i.size + news.length ≤ cur.size) (h1 : ∀ v ∈ news, v.oneCell' = true) :
    (Builtin.append_ #[t, u] ty #[.slice (some ⟨g, off, none⟩) sLen sCap, x]).run P w = .ok (.slice (some ⟨g, off, none⟩) (sLen + m) sCap) (w.setRow g (wr cur.toList (off + sLen * i.size) news).toArray) := by
  have hst := store_row P (g := g) (o := off + sLen * i.size) (i := 0) hg hz (by omega) h1
  simp only [Nat.add_zero] at hst
  rcases hd with ⟨k, rfl⟩ | rfl <;> simp [Builtin.append_, run_underlying ht, run_underlying hu, sizeOf, typeInfo, hi, hlen, hroom, hfirst, add_own, hst, wr]
theorem run_app_nil0 {t u ty e : TypeId} {i : TypeInfo} {d : TypeDesc} (ht : P.underlying t = some (.slice e)) (hu : P.underlying u = some d) (hd : NotInt d) (hi : P.info? e = some i) {x : Value} {c : Nat}
    (hlen : (Builtin.lenOf x).run P w = .ok 0 w) (hfirst : (Builtin.firstCells i.size 0 x).run P w = .ok #[] w) :
    (Builtin.append_ #[t, u] ty #[.slice none 0 c, x]).run P w = .ok (.slice none 0 c) w := by
  rcases hd with ⟨k, rfl⟩ | rfl <;> simp [Builtin.append_, run_underlying ht, run_underlying hu, sizeOf, typeInfo, hi, hlen, hfirst]
theorem run_app_none {t u ty e : TypeId} {i : TypeInfo} {d : TypeDesc} (ht : P.underlying t = some (.slice e)) (hu : P.underlying u = some d) (hd : NotInt d) (hi : P.info? e = some i) {x : Value} {ad : Addr} {l c : Nat} (hlc : l ≤ c)
    (hlen : (Builtin.lenOf x).run P w = .ok 0 w) (hfirst : (Builtin.firstCells i.size 0 x).run P w = .ok #[] w) :
    (Builtin.append_ #[t, u] ty #[.slice (some ad) l c, x]).run P w = .ok (.slice (some ad) l c) w := by
  rcases hd with ⟨k, rfl⟩ | rfl <;> simp [Builtin.append_, run_underlying ht, run_underlying hu, sizeOf, typeInfo, hi, hlen, hfirst, hlc, storeCells]
theorem run_app_grow {t u ty e : TypeId} {i : TypeInfo} {d : TypeDesc} {z : Value} (ht : P.underlying t = some (.slice e)) (hu : P.underlying u = some d) (hd : NotInt d) (hi : P.info? e = some i) (hz : i.zero = some z) {x : Value} {m : Nat} {news olds : List Value} {base : Option Addr} {sLen sCap : Nat}
    (hlen : (Builtin.lenOf x).run P w = .ok m w) (hfirst : (Builtin.firstCells i.size m x).run P w.drew = .ok news.toArray w.drew) (hold : (Builtin.firstCells i.size sLen (.slice base sLen sCap)).run P w.drew = .ok olds.toArray w.drew)
    (hg : sCap < sLen + m) (h63 : ((sLen + m : Nat) : Int) ≤ 9223372036854775807) (hfit : Builtin.nextslicecap (sLen + m) sCap * i.bytes ≤ 281474976710656) :
    (Builtin.append_ #[t, u] ty #[.slice base sLen sCap, x]).run P w =
      .ok (.slice (some ⟨w.heap.size, 0, none⟩) (sLen + m) (grownCap w (sLen + m) sCap e))
        (w.drew.alloc (.cells (olds.toArray ++ news.toArray ++ Builtin.zeroCells z.cells (grownCap w (sLen + m) sCap e - (sLen + m))) e)) := by
  have hn : ¬ (sLen + m ≤ sCap) := by omega
  have h63' : ¬ (9223372036854775807 < ((sLen : Int) + (m : Int))) := by omega
  have h48' : ¬ (281474976710656 < Builtin.nextslicecap (sLen + m) sCap * i.bytes) := by omega
  rcases hd with ⟨k, rfl⟩ | rfl <;>
  · simp [Builtin.append_, run_underlying ht, run_underlying hu, sizeOf, typeInfo, zeroValue, hi, hz, hlen, hn, h63', h48', Question.forced, hfirst, hold, newRow, grownCap]
    congr 2
    apply Array.ext'
    simp [List.append_assoc]
end

section
variable {P : Program} {ro : Option Nat} {B : World} {e : Env} {U : Nat → Prop} {i nx : Nat} {o : Oper} {a : Act} {w : World} {hp : Hp} {fr : Tr X} {dm : List DM} {n : Nat} {τ : Ty}
def bytesOfS : List Nat → X
  | [] => .nl
  | n :: l => .cs (.i .u8 (Int.ofNat n)) (bytesOfS l)
/-- What is appended: so many elements, these cells. -/
def srcX (τ : Ty) (hp : Hp) (sz : Nat) (u : TypeId) (x : X) : Option (Nat × X) :=
  match find τ u, x with
  | some ⟨.slice _, _, _, _⟩, .l0 => some (0, .nl)
  | some ⟨.slice _, _, _, _⟩, .ue _ _ _ _ => some (0, .nl)
  | some ⟨.slice _, _, _, _⟩, .l id off m _ => (match find hp id with
    | some (.c _ _ n z zn tr) => (match cellsAt n z zn tr (m * sz) off with
      | some l => some (m, l)
      | none => none)
    | _ => none)
  | some ⟨.slice _, _, _, _⟩, .u id off m _ => (match find hp id with
    | some (.c _ _ n z zn tr) => (match cellsAt n z zn tr (m * sz) off with
      | some l => some (m, l)
      | none => none)
    | _ => none)
  | some ⟨.string, _, _, _⟩, .s s => (match Nat.beq sz 1 with
    | true => some (s.length, bytesOfS s)
    | false => none)
  | _, _ => none
theorem bytes_den (s : List Nat) (h : s.all (fun n => Nat.blt n 256) = true) : denL e (bytesOfS s) = some ((str s).data.map (fun b : UInt8 => Value.int .u8 b.toNat)).toList := by
  induction s with
  | nil => simp [bytesOfS, denL, str]
  | cons a s ih =>
    simp only [List.all_cons, Bool.and_eq_true] at h
    have h1 := bltT.1 h.1
    simp only [bytesOfS, denL, den, ih h.2]
    simp [str, Nat.mod_eq_of_lt h1]
theorem srcX_run (hτ : TyOk P τ) (hf : Fit B e hp U w) {sz : Nat} {u : TypeId} {x : X} {m : Nat} {l : X} {v : Value} (hx : den e x = some v) (h : srcX τ hp sz u x = some (m, l)) :
    ∃ d news, P.underlying u = some d ∧ NotInt d ∧ denL e l = some news ∧ news.length = m * sz ∧ (Builtin.lenOf v).run P w = .ok m w ∧ ∀ w0 : World, w0.heap = w.heap → (Builtin.firstCells sz m v).run P w0 = .ok news.toArray w0 := by
  have hcells : ∀ {id off k c : Nat} {z : EE}, e id = some z → (match find hp id with
      | some (.c _ _ n z zn tr) => (match cellsAt n z zn tr (k * sz) off with
        | some l => some (k, l)
        | none => none)
      | _ => none) = some (m, l) → ∃ news, denL e l = some news ∧ news.length = m * sz ∧ m = k ∧ ∀ w0 : World, w0.heap = w.heap → (Builtin.firstCells sz m (.slice (some ⟨z.b, z.o + off, none⟩) k c)).run P w0 = .ok news.toArray w0 := by
    intro id off k c z hz h
    split at h
    · rename_i hb
      split at h
      · rename_i l' hl
        cases h
        obtain ⟨pre, vs, post, fz, ⟨g1, _⟩, g2, g3, _⟩ := hf.cells hb hz
        obtain ⟨k1, k2⟩ := cellsAt_run g3 hl
        refine ⟨_, k1, k2, rfl, fun w0 hw0 => run_firstCells_some (P := P) w0 sz m _ m c _ k2 fun j v hj => ?_⟩
        rw [add_own, Nat.add_assoc]
        refine cell_in (by rw [hw0]; exact g1) g2 ?_
        rw [List.getElem?_take] at hj
        split at hj
        · rw [List.getElem?_drop] at hj; exact hj
        · cases hj
      · cases h
    · cases h
  unfold srcX at h
  split at h
  · rename_i ht
    cases h
    simp only [den, Option.some.injEq] at hx
    subst hx
    exact ⟨_, [], (ty_some (hτ _ _ ht)).1, .inl ⟨_, rfl⟩, rfl, by simp, rfl, fun w0 _ => rfl⟩
  · rename_i ht
    cases h
    obtain ⟨z, _, _, rfl⟩ := den_ue hx
    refine ⟨_, [], (ty_some (hτ _ _ ht)).1, .inl ⟨_, rfl⟩, rfl, by simp, rfl, fun w0 _ => ?_⟩
    simp [Builtin.firstCells, loadCells, loadCellsFrom]
  · rename_i ht
    obtain ⟨z, hz, _, rfl⟩ := den_l hx
    obtain ⟨news, g1, g2, rfl, g3⟩ := hcells (c := ‹Nat›) hz h
    exact ⟨_, news, (ty_some (hτ _ _ ht)).1, .inl ⟨_, rfl⟩, g1, g2, rfl, g3⟩
  · rename_i ht
    obtain ⟨z, hz, _, rfl⟩ := den_u hx
    obtain ⟨news, g1, g2, rfl, g3⟩ := hcells (c := z.c - ‹Nat›) hz h
    exact ⟨_, news, (ty_some (hτ _ _ ht)).1, .inl ⟨_, rfl⟩, g1, g2, rfl, g3⟩
  · rename_i ht
    obtain ⟨hs, rfl⟩ := den_s hx
    split at h
    · rename_i h1
      have h1 := beqT.1 h1
      subst h1
      cases h
      refine ⟨_, _, (ty_some (hτ _ _ ht)).1, .inr rfl, bytes_den _ hs, by simp [str], ?_, fun w0 _ => ?_⟩
      · simp [Builtin.lenOf, str_size]
      · simp only [Builtin.firstCells, Array.toArray_toList]
        congr 2
        rename_i s _ _
        have : (str s).extract 0 s.length = str s := by rw [← str_size]; exact ByteArray.extract_zero_size
        rw [this]
        rfl
    · cases h
  · cases h
def slX : X → Bool
  | .l0 => true
  | .l _ _ _ _ => true
  | .u _ _ _ _ => true
  | .ue _ _ _ _ => true
  | _ => false
/-- Elements put behind a slice's last one: in place where there is room for certain; else in a row of another name, wherever it lies. -/
def appX (hp : Hp) (i nx : Nat) (el : TypeId) (D : TD) (m : Nat) (us : X) : X → Option Outs
  | .l0 => outc (.u i 0 m 0) nx (put 40 hp i (some (newB el D.size us)))
  | .l id off len cap => (match Nat.ble (len + m) cap with
    | true => outc (.l id off (len + m) cap) nx (stB hp id (off + len * D.size) us)
    | false => (match find hp id with
      | some (.c _ _ n z zn tr) => (match cellsAt n z zn tr (len * D.size) off, Nat.ble len 1000000 with
        | some olds, true => outc (.u i 0 (len + m) 0) nx (put 40 hp i (some (newB el D.size (xcat olds us))))
        | _, _ => none)
      | _ => none))
  | .u id off len k => (match find hp id with
    | some (.c t0 sz n z zn tr) => (match Nat.beq sz D.size, Nat.beq t0 el, Nat.beq off (k * D.size), Nat.blt 0 D.size with
      | true, true, true, true => (match Nat.ble (off + (len + m) * D.size) n with
        | true => outc (.u id off (len + m) k) nx (stB hp id (off + len * D.size) us)
        | false => (match cellsAt n z zn tr (len * D.size) off, Nat.ble len 1000000 with
          | some olds, true => (match put 40 hp id none with
            | some hp1 => outc (.u i 0 (len + m) 0) nx (put 40 hp1 i (some (newB el D.size (xcat olds us))))
            | none => none)
          | _, _ => none))
      | _, _, _, _ => none)
    | _ => none)
  | _ => none
def zOK (D : TD) : Bool := match xof D.zero with
  | some zx => Nat.beq (xlen (cellsX zx)) D.size
  | none => false
theorem zOK_size {D : TD} (h : zOK D = true) : D.zero.cells.size = D.size := by
  unfold zOK at h
  split at h
  · rename_i zx hx
    have h := beqT.1 h
    have := xlen_den (cellsX_den (xof_den hx (fun _ => none)))
    rw [← h, this, Array.length_toList]
  · cases h
def aAppend (τ : Ty) (fr : Tr X) (hp : Hp) (i nx : Nat) (t u : TypeId) (s x : Operand) : Option Outs :=
  match find τ t, ev fr s, ev fr x with
  | some ⟨.slice el, _, _, _⟩, some sx, some xx => (match find τ el with
    | some D => (match srcX τ hp D.size u xx with
      | some (m, us) => (match Nat.beq m 0 with
        | true => (match slX sx with
          | true => some [(sx, hp, nx)]
          | false => none)
        | false => (match Nat.ble m 1000000, Nat.ble D.bytes 1000, zOK D with
          | true, true, true => (match allOne us with
            | true => appX hp i nx el D m us sx
            | false => none)
          | _, _, _ => none))
      | none => none)
    | none => none)
  | _, _, _ => none
theorem zeroCells_size (zs : Array Value) (n : Nat) : (Builtin.zeroCells zs n).size = n * zs.size := by simp [Builtin.zeroCells]
/-- A grown row, under a new name. -/
theorem grown_ok {sz b c : Nat} {l : X} {cs : List Value} {el : TypeId} {w' : World} {zs : Array Value} {m : Nat} (hl : denL e l = some cs) (hcs : cs.length = m * sz) (hzs : zs.size = sz) (hc : m ≤ c) :
    IsObj e w' ⟨b, 0, c, sz, none, undef⟩ (newB el sz l) (.cells (cs.toArray ++ Builtin.zeroCells zs (c - m)) el) := by
  refine ⟨rfl, [], cs, (Builtin.zeroCells zs (c - m)).toList, (0, 0), by simp, .inl rfl, rfl, by rw [xlen_den hl]; exact .mk hl, ?_, .inl (by rw [xlen_den hl, hcs]; exact Nat.mul_le_mul_right _ hc)⟩
  simp only [List.nil_append, List.length_append, Array.length_toList, zeroCells_size, hcs, hzs, Nat.zero_add, ← Nat.add_mul]
  rw [show m + (c - m) = c by omega]
  exact Nat.le_refl _
theorem aAppend_ok (hτ : TyOk P τ) (hk : KnX e n fr dm a) (hf : Fit B e hp U w) (hi : ¬ U i) {t u : TypeId} {s x : Operand} {args : Array Operand} {tys : Array TypeId} (ho : o.op = .call ⟨.builtin .append, args, tys⟩) (ha : args.toList = [s, x]) (hty : tys.toList = [t, u])
    {outs : Outs} (h : aAppend τ fr hp i nx t u s x = some outs) : EffOk P ro B e U i nx o a w outs := by
  have hd : ∀ c, o.op ≠ .defer c := by rw [ho]; simp
  obtain rfl : args = #[s, x] := by cases args; simp at ha; simp [ha]
  obtain rfl : tys = #[t, u] := by cases tys; simp at hty; simp [hty]
  unfold aAppend at h
  split at h
  · rename_i el _ _ _ sx xx ht hs hx
    obtain ⟨vs, s1, s2⟩ := ev_run hk hs
    obtain ⟨vx, x1, x2⟩ := ev_run hk hx
    have ht' : P.underlying t = some (.slice el) := by rw [(ty_some (hτ _ _ ht)).1]
    have he : ∀ v' w', (Builtin.append_ #[t, u] o.type #[vs, vx]).run P w = .ok v' w' → (execOp a.eval o).run P w = .ok (.value v') w' := by
      intro v' w' hrun
      obtain ⟨dst, op, type, pos, after, guard⟩ := o
      subst ho
      simp only [execOp, resolve, invoke, builtin, Sem.run_bind, Sem.run_pure, Result.andThen_ok, List.map_toArray, List.map_cons, List.map_nil, s2, x2, hrun]
    split at h
    · rename_i D hD
      obtain ⟨_, i0, hi0, z1, z2, z3⟩ := ty_some (hτ _ _ hD)
      split at h
      · rename_i m us hsrc
        obtain ⟨d, news, u1, u2, u3, u4, u5, u6⟩ := srcX_run (P := P) hτ hf x1 hsrc
        rw [← z1] at u6
        have u6' := u6 w rfl
        split at h
        · rename_i hm
          have hm := beqT.1 hm
          subst hm
          have hn : news = [] := List.eq_nil_of_length_eq_zero (by simpa using u4)
          subst hn
          split at h
          · rename_i hsl
            cases h
            have hsame : (Builtin.append_ #[t, u] o.type #[vs, vx]).run P w = .ok vs w := by
              cases sx <;> simp only [slX] at hsl <;> first
                | (cases hsl; done)
                | (simp only [den, Option.some.injEq] at s1; subst s1; exact run_app_nil0 ht' u1 u2 hi0 u5 u6')
                | (obtain ⟨z, _, hlc, rfl⟩ := den_l s1; exact run_app_none ht' u1 u2 hi0 hlc u5 u6')
                | (obtain ⟨z, _, hlc, rfl⟩ := den_u s1; exact run_app_none ht' u1 u2 hi0 (by omega) u5 u6')
                | (obtain ⟨z, _, hlc, rfl⟩ := den_ue s1; exact run_app_none ht' u1 u2 hi0 (by omega) u5 u6')
            exact .value hd ⟨sx, hp, nx, vs, w, e, List.mem_cons_self, he _ _ hsame, Env.le_refl e, s1, hf.used fun id h => .inl h⟩
          · cases h
        · rename_i hm
          have hm := beqF.1 hm
          split at h
          · rename_i hm2 hby hzc
            have hm2 : m ≤ 1000000 := by simpa using hm2
            have hby : D.bytes ≤ 1000 := by simpa using hby
            have hzs := zOK_size hzc
            split at h
            · rename_i hone
              have h1 := allOne_one hone u3
              have fit : ∀ {k c : Nat}, c < k + m → k ≤ 1000000 → Builtin.nextslicecap (k + m) c * i0.bytes ≤ 281474976710656 := fun {k c} h1 h2 => growslice_fits h1 (by
                rw [z2]
                have := Nat.mul_le_mul (show k + m ≤ 2000000 by omega) hby
                omega)
              have cells : ∀ {id off k : Nat} {z : EE} {t0 : TypeId} {sz n : Nat} {zz : X} {zn : Nat} {tr : Tr X} {olds : X} (c : Nat), find hp id = some (.c t0 sz n zz zn tr) → e id = some z → cellsAt n zz zn tr (k * D.size) off = some olds →
                  ∃ ol, denL e olds = some ol ∧ ol.length = k * D.size ∧ (Builtin.firstCells i0.size k (.slice (some ⟨z.b, z.o + off, none⟩) k c)).run P w.drew = .ok ol.toArray w.drew := by
                intro id off k z t0 sz n zz zn tr olds c hb hz hol
                obtain ⟨pre, vs, post, fz, ⟨g1, _⟩, g2, g3, _⟩ := hf.cells hb hz
                obtain ⟨k1, k2⟩ := cellsAt_run g3 hol
                refine ⟨_, k1, k2, run_firstCells_some (P := P) w.drew i0.size k _ k c _ (by rw [z1]; exact k2) fun j v hj => ?_⟩
                rw [add_own, Nat.add_assoc]
                refine cell_in (by exact g1) g2 ?_
                rw [List.getElem?_take] at hj
                split at hj
                · rw [List.getElem?_drop] at hj; exact hj
                · cases hj
              have room : ∀ {id off len c : Nat} {z : EE} {hp' : Hp} {y : X}, e id = some z → vs = .slice (some ⟨z.b, z.o + off, none⟩) len c → len + m ≤ c → (∀ e', e.le e' → den e' y = some (.slice (some ⟨z.b, z.o + off, none⟩) (len + m) c)) →
                  outc y nx (stB hp id (off + len * D.size) us) = some outs → EffOk P ro B e U i nx o a w outs := by
                intro id off len c z hp' y hz hvs hlc hy h
                obtain ⟨hp2, k1, k2⟩ := outc_some h
                have k1' := k1
                unfold stB at k1'
                split at k1'
                · rename_i t0 sz n zz zn tr hb
                  split at k1'
                  · rename_i hle
                    obtain ⟨pre, vs', post, fz, ⟨g1, gz⟩, g2, g3, _⟩ := hf.cells hb hz
                    have hle : off + len * D.size + xlen us ≤ n := by simpa using hle
                    rw [xlen_den u3] at hle
                    have hvl := g3.1
                    obtain ⟨w', r1, r2, _⟩ := stB_run (P := P) hf hz u3 h1 k1
                    have hsc := store_row P (o := z.o + (off + len * D.size)) (i := 0) g1 (by rw [List.size_toArray]; exact gz) (by simp; omega) h1
                    simp only [Nat.add_zero] at hsc
                    have hr := run_app_room (P := P) (ty := o.type) ht' u1 u2 hi0 u5 u6' (g := z.b) (off := z.o + off) (sLen := len) (sCap := c) g1 (by rw [List.size_toArray]; exact gz) hlc (by rw [z1]; simp; omega) h1
                    rw [← hvs] at hr
                    have hw : w' = w.setRow z.b (wr (pre ++ vs' ++ post).toArray.toList (z.o + off + len * i0.size) news).toArray := by
                      rw [hsc] at r1
                      cases r1
                      unfold wr
                      rw [z1]
                      simp only [Nat.add_assoc]
                    rw [← hw] at hr
                    exact .value hd ⟨y, hp2, nx, _, w', e, k2, he _ _ hr, Env.le_refl e, hy e (Env.le_refl e), r2.used fun id h => .inl h⟩
                  · cases k1'
                · cases k1'
              have grow : ∀ {hp1 : Hp} {off len c : Nat} {z : EE} {olds : X} {ol : List Value}, Fit B e hp1 U w → vs = .slice (some ⟨z.b, z.o + off, none⟩) len c → c < len + m → len ≤ 1000000 → denL e olds = some ol → ol.length = len * D.size →
                  (Builtin.firstCells i0.size len (.slice (some ⟨z.b, z.o + off, none⟩) len c)).run P w.drew = .ok ol.toArray w.drew → outc (.u i 0 (len + m) 0) nx (put 40 hp1 i (some (newB el D.size (xcat olds us)))) = some outs → EffOk P ro B e U i nx o a w outs := by
                intro hp1 off len c z olds ol hf1 hvs hc hlen o1 o2 o3 h
                have hr := run_app_grow (P := P) (ty := o.type) (sLen := len) (sCap := c) (base := some ⟨z.b, z.o + off, none⟩) (olds := ol) ht' u1 u2 hi0 z3 u5 (u6 w.drew rfl) o3 hc (by omega) (fit hc hlen)
                rw [← hvs] at hr
                have hge := grownCap_ge w (len + m) c el
                have hcat : (ol ++ news).length = (len + m) * D.size := by rw [List.length_append, o2, u4, Nat.add_mul]
                refine .fresh hd hf1 hi (z := ⟨w.heap.size, 0, grownCap w (len + m) c el, D.size, none, undef⟩) rfl (he _ _ hr) (step_alloc' w w.drew _ rfl rfl rfl rfl) (alloc_new _ _) ?_ ?_ h
                · have := grown_ok (b := w.heap.size) (el := el) (w' := w.drew.alloc (.cells (ol.toArray ++ news.toArray ++ Builtin.zeroCells D.zero.cells (grownCap w (len + m) c el - (len + m))) el)) (denLM (Env.le_add (z := ⟨w.heap.size, 0, grownCap w (len + m) c el, D.size, none, undef⟩) (hf.nix hi)) (xcat_den o1 u3)) hcat hzs hge
                  simpa using this
                · simp only [den, Env.add_self]
                  rw [if_pos (by omega)]
                  rfl
              unfold appX at h
              split at h
              · simp only [den, Option.some.injEq] at s1
                subst s1
                have hr := run_app_grow (P := P) (ty := o.type) (sLen := 0) (sCap := 0) (base := none) (olds := []) ht' u1 u2 hi0 z3 u5 (u6 w.drew rfl) rfl (by omega) (by omega) (fit (by omega) (by omega))
                have hge := grownCap_ge w (0 + m) 0 el
                simp only [Nat.zero_add] at hr hge
                refine .fresh hd hf hi (z := ⟨w.heap.size, 0, grownCap w m 0 el, D.size, none, undef⟩) rfl (he _ _ hr) (step_alloc' w w.drew _ rfl rfl rfl rfl) (alloc_new _ _) ?_ ?_ h
                · have := grown_ok (b := w.heap.size) (el := el) (w' := w.drew.alloc (.cells (([] : List Value).toArray ++ news.toArray ++ Builtin.zeroCells D.zero.cells (grownCap w m 0 el - m)) el)) (denLM (Env.le_add (z := ⟨w.heap.size, 0, grownCap w m 0 el, D.size, none, undef⟩) (hf.nix hi)) u3) u4 hzs hge
                  simpa using this
                · simp only [den, Env.add_self]
                  rw [if_pos (by omega)]
                  rfl
              · rename_i id off len cap
                obtain ⟨z, hz, hlc, hvs⟩ := den_l s1
                split at h
                · rename_i hroom
                  have hroom : len + m ≤ cap := by simpa using hroom
                  exact room (hp' := hp) hz hvs hroom (fun e' hl => by simp only [den, hl _ _ hz]; rw [if_pos hroom]) h
                · rename_i hroom
                  have hroom : cap < len + m := by
                    rcases Nat.lt_or_ge cap (len + m) with h' | h'
                    · exact h'
                    · exfalso; have : Nat.ble (len + m) cap = true := by simpa using h'
                      rw [this] at hroom; cases hroom
                  split at h
                  · rename_i hb
                    split at h
                    · rename_i olds hol hlen
                      have hlen : len ≤ 1000000 := by simpa using hlen
                      obtain ⟨ol, o1, o2, o3⟩ := cells cap hb hz hol
                      exact grow hf hvs hroom hlen o1 o2 o3 h
                    · cases h
                  · cases h
              · rename_i id off len k
                obtain ⟨z, hz, hlc, hvs⟩ := den_u s1
                split at h
                · rename_i t0 sz nn zz zn tr hb
                  split at h
                  · rename_i hsz ht0 hok hp0
                    have hsz := beqT.1 hsz
                    have ht0 := beqT.1 ht0
                    have hok := beqT.1 hok
                    have hp0 := bltT.1 hp0
                    subst hsz; subst ht0
                    obtain ⟨pre, vs', post, fz, ⟨g1, gz⟩, g2, g3, g4, g5, g6⟩ := hf.cells hb hz
                    rw [← g4] at g5 g6
                    have hvl := g3.1
                    split at h
                    · rename_i hroom
                      have hroom : off + (len + m) * D.size ≤ nn := by simpa using hroom
                      have hcap : len + m + k ≤ z.c := by
                        rcases g6 with g6 | g6
                        · have h2 : (k + (len + m)) * D.size ≤ z.c * D.size := by rw [Nat.add_mul, ← hok]; omega
                          have := Nat.le_of_mul_le_mul_right h2 hp0
                          omega
                        · omega
                      exact room (hp' := hp) hz hvs (by omega) (fun e' hl => by simp only [den, hl _ _ hz]; rw [if_pos hcap]) h
                    · split at h
                      · rename_i olds hol hlen
                        have hlen : len ≤ 1000000 := by simpa using hlen
                        obtain ⟨ol, o1, o2, o3⟩ := cells (z.c - k) hb hz hol
                        split at h
                        · rename_i hp1 hdrop
                          have hf1 := hf.drop hdrop
                          rcases Nat.lt_or_ge (z.c - k) (len + m) with hc | hc
                          · exact grow hf1 hvs hc hlen o1 o2 o3 h
                          · obtain ⟨hp2, k1, k2⟩ := outc_some h
                            have hmul : (k + (len + m)) * D.size ≤ z.c * D.size := Nat.mul_le_mul_right _ (by omega)
                            rw [Nat.add_mul, Nat.add_mul, ← hok, ← u4, ← o2] at hmul
                            have hr := run_app_room (P := P) (ty := o.type) ht' u1 u2 hi0 u5 u6' (g := z.b) (off := z.o + off) (sLen := len) (sCap := z.c - k) g1 (by rw [List.size_toArray]; exact gz) hc (by rw [z1, ← o2]; simp only [List.size_toArray]; omega) h1
                            rw [← hvs, z1, ← o2] at hr
                            have hother : ∀ id' bl z', find hp1 id' = some bl → e id' = some z' → z'.b ≠ z.b := fun id' bl z' hb' hz' hzz => by
                              rw [put_find _ _ _ _ _ hdrop] at hb'
                              split at hb'
                              · cases hb'
                              · rename_i hne; exact hne (hf.inj _ _ _ _ _ _ hb' hb hz' hz hzz)
                            have hwd := hf1.world (step_setRow w z.b (wr (pre ++ vs' ++ post).toArray.toList (z.o + off + ol.length) news).toArray) (fun b hb' => by cases hb'; exact ⟨hf.own _ _ _ hb hz rfl, (fun m s r c hh => by rw [g1] at hh; cases hh), hother⟩)
                            have hole : ol = ((pre ++ vs' ++ post).drop (z.o + off)).take ol.length := by
                              obtain ⟨j1, j2⟩ := cellsAt_run g3 hol
                              rw [o1] at j1
                              have j1 := Option.some.inj j1
                              have hl2 : len * D.size ≤ (vs'.drop off).length := by
                                rw [List.length_take] at j2; omega
                              by_cases h0 : ol.length = 0
                              · rw [h0, List.take_zero]; exact List.eq_nil_of_length_eq_zero h0
                              · have hof : off ≤ vs'.length := by
                                  rcases Nat.lt_or_ge vs'.length off with h' | h'
                                  · rw [List.length_drop] at hl2; omega
                                  · exact h'
                                rw [List.append_assoc, ← g2, List.drop_length_add_append, List.drop_append_of_le_length hof, List.take_append_of_le_length (by rw [o2]; exact hl2), o2]
                                exact j1
                            have hcells : wr (pre ++ vs' ++ post) (z.o + off + ol.length) news = (pre ++ vs' ++ post).take (z.o + off) ++ (ol ++ news) ++ (pre ++ vs' ++ post).drop (z.o + off + ol.length + news.length) := by
                              unfold wr
                              congr 1
                              rw [← List.append_assoc]
                              congr 1
                              rw [List.take_add]
                              congr 1
                              exact hole.symm
                            have hcat := xcat_den o1 u3
                            have hadd := Env.le_add (z := ⟨z.b, z.o + off, z.c - k, D.size, none, undef⟩) (hf1.nix hi)
                            have hcat' := denLM hadd hcat
                            have hlen2 : (ol ++ news).length = (len + m) * D.size := by rw [List.length_append, o2, u4, Nat.add_mul]
                            have hfin := hwd.adopt (i := i) (z := ⟨z.b, z.o + off, z.c - k, D.size, none, undef⟩) (bl := newB t0 D.size (xcat olds us)) (o := .cells (wr (pre ++ vs' ++ post) (z.o + off + ol.length) news).toArray t0 fz) hi (show B.heap.size ≤ z.b from hf.own _ _ _ hb hz rfl) (by
                                have := setRow_heap w z.b _ (wr (pre ++ vs' ++ post).toArray.toList (z.o + off + ol.length) news).toArray _ _ g1
                                exact this) hother ?_ k1
                            · refine .value hd ⟨.u i 0 (len + m) 0, hp2, nx, _, _, _, k2, he _ _ hr, hadd, ?_, hfin.used fun id h => ?_⟩
                              · simp only [den, Env.add_self]
                                rw [if_pos (by omega)]
                                simp
                              · rcases h with h | h
                                · exact .inl h
                                · exact .inr (.inl h)
                            · refine ⟨rfl, (pre ++ vs' ++ post).take (z.o + off), ol ++ news, (pre ++ vs' ++ post).drop (z.o + off + ol.length + news.length), fz, by rw [hcells], by rw [← hcells]; have hlw : (wr (pre ++ vs' ++ post) (z.o + off + ol.length) news).length = (pre ++ vs' ++ post).length := (by unfold wr; simp; simp at g5; omega); rw [hlw]; exact gz, by simp only [List.length_append] at g5 ⊢; simp; omega, by rw [xlen_den hcat']; exact .mk hcat', ?_, .inl ?_⟩
                              · rw [← hcells]
                                have hlw : (wr (pre ++ vs' ++ post) (z.o + off + ol.length) news).length = (pre ++ vs' ++ post).length := by
                                  unfold wr; simp; simp at g5; omega
                                rw [hlw]
                                show z.o + off + (z.c - k) * D.size ≤ _
                                have : (z.c - k) * D.size + k * D.size = z.c * D.size := by rw [← Nat.add_mul]; congr 1; omega
                                omega
                              · show xlen (xcat olds us) ≤ (z.c - k) * D.size
                                rw [xlen_den hcat', hlen2]
                                exact Nat.mul_le_mul_right _ hc
                        · cases h
                      · cases h
                  · cases h
                · cases h
              · cases h
            · cases h
          · cases h
      · cases h
    · cases h
  · cases h
end
end Go.AM
