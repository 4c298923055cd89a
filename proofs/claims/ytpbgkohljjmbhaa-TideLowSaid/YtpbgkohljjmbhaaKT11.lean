/-
  Bounds of cosines and of levels grow with their spans. Plain arithmetic. No condition. (This text proves no statement by itself.)
-/
import Derived.Test.YtpbgkohljjmbhaaKT5

namespace Go.Proofs.Ytpbgkohljjmbhaa.M
open Go
def CH (k : Int) : Int := if 900 < k then -qlo (1800 - k) else qhi k
def CL (k : Int) : Int := if 900 < k then -qhi (1800 - k) else qlo k
set_option maxRecDepth 100000 in
theorem CH_step : ∀ k : Nat, k < 1800 → CH (k + 1) ≤ CH k ∧ CL (k + 1) ≤ CL k := by decide +kernel
theorem CH_anti {j : Nat} : ∀ {d : Nat}, j + d ≤ 1800 → CH ((j + d : Nat) : Int) ≤ CH (j : Int) ∧ CL ((j + d : Nat) : Int) ≤ CL (j : Int)
  | 0, _ => ⟨Int.le_refl _, Int.le_refl _⟩
  | d + 1, h => by
    have h1 := CH_anti (j := j) (d := d) (by omega)
    have h2 := CH_step (j + d) (by omega)
    have e : ((j + (d + 1) : Nat) : Int) = ((j + d : Nat) : Int) + 1 := by omega
    rw [e]
    omega
theorem CH_le {j k : Int} (h0 : 0 ≤ j) (h : j ≤ k) (h1 : k ≤ 1800) : CH k ≤ CH j ∧ CL k ≤ CL j := by
  obtain ⟨a, rfl⟩ := Int.eq_ofNat_of_zero_le h0
  obtain ⟨d, hd⟩ := Int.eq_ofNat_of_zero_le (show 0 ≤ k - (a : Int) by omega)
  have e : k = ((a + d : Nat) : Int) := by omega
  rw [e]
  exact CH_anti (by omega)
theorem cHi_eq (a : Int) : cHi a = CH (ck a) := rfl
theorem cLo_eq (a : Int) : cLo a = CL (ck a) := rfl
theorem CH_0 : CH 0 = 65536 ∧ CL 1800 = -65536 := by decide +kernel
theorem c_one (a : Int) : cHi a ≤ 65536 ∧ -65536 ≤ cLo a := by
  obtain ⟨h1, h2⟩ := ck_bd a
  have g1 := CH_le (j := 0) (by omega) h1 h2
  have g2 := CH_le h1 h2 (Int.le_refl 1800)
  rw [CH_0.1] at g1
  rw [CH_0.2] at g2
  rw [cHi_eq, cLo_eq]
  exact ⟨g1.1, g2.2⟩
theorem c_in {lo hi a : Int} (h1 : lo ≤ a) (h2 : a ≤ hi) : bLo lo hi ≤ cLo a ∧ cHi a ≤ bHi lo hi := by
  obtain ⟨o1, o2⟩ := c_one a
  obtain ⟨k1, k2⟩ := ck_bd a
  obtain ⟨l1, l2⟩ := ck_bd lo
  obtain ⟨m1, m2⟩ := ck_bd hi
  unfold bLo bHi
  constructor
  · cases hm : meets lo hi 1800
    · simp only [cond_false, cLo_eq]
      simp only [meets, decide_eq_false_iff_not] at hm
      have : ck a ≤ ck lo ∨ ck a ≤ ck hi := by unfold ck; omega
      rcases this with h | h
      · have := (CH_le k1 h l2).2; omega
      · have := (CH_le k1 h m2).2; omega
    · simpa using o2
  · cases hm : meets lo hi 0
    · simp only [cond_false, cHi_eq]
      simp only [meets, decide_eq_false_iff_not] at hm
      have : ck lo ≤ ck a ∨ ck hi ≤ ck a := by unfold ck; omega
      rcases this with h | h
      · have := (CH_le l1 h k2).1; omega
      · have := (CH_le m1 h k2).1; omega
    · simpa using o1
theorem b_mono {lo hi a b : Int} (h1 : lo ≤ a) (h2 : a ≤ b) (h3 : b ≤ hi) : bLo lo hi ≤ bLo a b ∧ bHi a b ≤ bHi lo hi := by
  have ca := c_in h1 (show a ≤ hi by omega)
  have cb := c_in (show lo ≤ b by omega) h3
  constructor
  · cases hm : meets a b 1800
    · have e : bLo a b = min (cLo a) (cLo b) := by simp [bLo, hm]
      omega
    · have hm' : meets lo hi 1800 = true := by
        simp only [meets, decide_eq_true_eq] at hm ⊢
        omega
      simp [bLo, hm, hm']
  · cases hm : meets a b 0
    · have e : bHi a b = max (cHi a) (cHi b) := by simp [bHi, hm]
      omega
    · have hm' : meets lo hi 0 = true := by
        simp only [meets, decide_eq_true_eq] at hm ⊢
        omega
      simp [bHi, hm, hm']
theorem a_mono {p h x x' : Int} (hp : 1 ≤ p) (hx : x ≤ x') : aLo p h x ≤ aLo p h x' ∧ aHi p h x ≤ aHi p h x' := by
  have h1 := Int.ediv_le_ediv (c := p) (by omega) (show 3600 * x ≤ 3600 * x' by omega)
  have h2 := Int.ediv_le_ediv (c := p) (by omega) (show -(3600 * x') ≤ -(3600 * x) by omega)
  unfold aLo aHi
  omega
theorem a_le {p h x : Int} (hp : 1 ≤ p) : aLo p h x ≤ aHi p h x := by
  have h1 := Int.ediv_mul_le (3600 * x) (show p ≠ 0 by omega)
  have h2 := Int.ediv_mul_le (-(3600 * x)) (show p ≠ 0 by omega)
  unfold aLo aHi
  have : (3600 * x / p) * p + (-(3600 * x) / p) * p ≤ 0 := by omega
  rw [← Int.add_mul] at this
  have h3 : 3600 * x / p + -(3600 * x) / p ≤ 0 := by
    rcases Int.lt_or_le 0 (3600 * x / p + -(3600 * x) / p) with h | h
    · have := Int.mul_le_mul (show 1 ≤ 3600 * x / p + -(3600 * x) / p by omega) hp (by omega) (by omega)
      omega
    · exact h
  omega
theorem lv_mono {am pe ph : Nat → Int} {x y a b : Int} (h1 : x ≤ a) (h2 : a ≤ b) (h3 : b ≤ y) : ∀ {k : Nat}, (∀ j, j < k → okP am pe ph j = true) → lvLo am pe ph x y k ≤ lvLo am pe ph a b k ∧ lvHi am pe ph a b k ≤ lvHi am pe ph x y k
  | 0, _ => ⟨Int.le_refl _, Int.le_refl _⟩
  | k + 1, h => by
    have ih := lv_mono h1 h2 h3 (k := k) (fun j hj => h j (by omega))
    obtain ⟨f1, f2, f3, -⟩ := okP_iff.1 (h k (by omega))
    have e1 := (a_mono (h := ph k) f3 h1).1
    have e2 := (a_mono (h := ph k) f3 h3).2
    have e3 := a_le (p := pe k) (h := ph k) (x := a) f3
    have e4 := (a_mono (p := pe k) (h := ph k) f3 h2).2
    obtain ⟨g1, g2⟩ := b_mono e1 (show aLo (pe k) (ph k) a ≤ aHi (pe k) (ph k) b by omega) e2
    have m1 := Int.mul_le_mul_of_nonneg_left g1 f1
    have m2 := Int.mul_le_mul_of_nonneg_left g2 f1
    simp only [lvLo, lvHi]
    omega
theorem g_mono {mn : Int} {n : Nat} {am pe ph : Nat → Int} {x y a b : Int} (hm : modE mn n am pe ph = 0) (h1 : x ≤ a) (h2 : a ≤ b) (h3 : b ≤ y) : gLo mn n am pe ph x y ≤ gLo mn n am pe ph a b ∧ gHi mn n am pe ph a b ≤ gHi mn n am pe ph x y := by
  have := lv_mono h1 h2 h3 (modE_iff.1 hm).2.2.2
  unfold gLo gHi
  omega
/-- Peak starts with the level at the start or with the first piece: the same. -/
theorem pkHi_eq {mn : Int} {n : Nat} {am pe ph : Nat → Int} {x y st : Int} (h : stE mn n am pe ph x y st = 0) : pkHi mn n am pe ph x y st (gHi mn n am pe ph x x) (pcN x y st) = pkHi mn n am pe ph x y st (gHi mn n am pe ph (pcL x st 0) (pcH x y st 0)) (pcN x y st) := by
  obtain ⟨ht, hst, -⟩ := stE_iff.1 h
  obtain ⟨hm, hxy, -⟩ := timE_iff.1 ht
  obtain ⟨hN, -⟩ := pc_spec hxy hst
  obtain ⟨i1, i2, i3⟩ := pc_in (x := x) (y := y) (k := 0) hxy hst hN
  have e0 : pcL x st 0 = x := by simp [pcL]
  have hg := (g_mono (a := x) (b := x) hm (show pcL x st 0 ≤ x by omega) (Int.le_refl _) (show x ≤ pcH x y st 0 by omega)).2
  have key : ∀ k, pkHi mn n am pe ph x y st (gHi mn n am pe ph x x) (k + 1) = pkHi mn n am pe ph x y st (gHi mn n am pe ph (pcL x st 0) (pcH x y st 0)) (k + 1) := fun k => by
    induction k with
    | zero => simp only [pkHi]; omega
    | succ k ih => simp only [pkHi] at ih ⊢; rw [ih]
  obtain ⟨k, hk⟩ : ∃ k, pcN x y st = k + 1 := ⟨pcN x y st - 1, by omega⟩
  rw [hk]; exact key k
end Go.Proofs.Ytpbgkohljjmbhaa.M
/-
  The circle: a table of a quarter of a turn, and powers of a vector that turns by one tenth of a degree. Plain arithmetic. No condition. (This text proves no statement by itself.)
-/
namespace Go.Proofs.Ytpbgkohljjmbhaa.M
open Go
set_option maxRecDepth 100000
def tabT : Nat := 4992697007838930651913177665482768099193909648900774377028507280299487572895449913753447832126263627429305737414042124439847171702943112399524523406589913530349562373053714224180456188523180799054085316327519495916477857969647486467162064566087830995699142055492151986265588140133395595291965866295232100770776099833662780536124525905015165240193510916663948199527792042441744771938835455498423436685956130718930954802422412274016837443940318523058676459156256449087700872954046759215143783894262612522253574628910388235846993896216709516795506539760738938970271142766662453763414637661139965750075767095875919026539682946558809295187568171724662895084066207058360840880981657202345190758662112284754380317831045195357153987746356533648334281975558128776007799203630137803160409931769017578778800517859326333104218765457253710942671170458175457928870834558244279800436919068776499179816500647389294639517614367586615194682221377118670799122109169315878472564309729051252044933408511641479990825921918027350208788480837409584617870607153717300244175337566348480713247207759012701814908081224702638826492706196118981934386871070089137851882959704497495594386969873540126220880240226388321639470817479820457292578087526575318274443532557475401852782934569886065345990742111192902706472990324205946991076255484686050279746848772389203634592827706158268116566741130430188728969208815118654560096482094608277694626303439034405331043389157415450575807052362566154784798186230693038346615650052731120992934350244756301996679724744369714248262755204251300155803263186163344700466117354871555356817499490787091720330847236830588824033623963979683347023896426351679475646984438703925487562414206865194540272698688429925798491940052736097474943138227462366538769231369563839092556056768789435201842089384285974349185864869925046179775441723621702187648793561270409603322435325037133494300761363075955851423074554269394078694980396922227069733991250554061760278899343034819553994725247575222956969713780044425951295905953457531563375765687407305179866038470227292164371297996679102066351485357180058156090861816718394005304025601751931436472542763873125104773712161501653973906435270525489680899292310377249069504189944364701420769836823629217415950210572426059406442049847698548997645332217763444634163753226952825988485486018881434301505092976093853570575892132389433343267248621373837993141211778457984164001157138655292018666173631326250834784527349023604823265626926189495333669883436854849320213499881677739693264981119957032262214010359863726821552071397190655096114467444641730491307909326076255180529513468952376613376989144834905705749070252052190152529416725557511032383912822583490276712242710871124510636877237096274479868967975314121597404923505275791462973195656452365938382099097231444877313064965668062095106249448285118488717642768087061092356593125888514354709896654172660707797409874142704169529076731757927982059593644744636670641163545957028534792865146703229995119558976131786303244495212517770245700283875744249472296449673828000125999191140980844044533038725218913667061517721709000634289533826372375964002138275725977185659860089426587021008199097853634914304747952003701043427402290598354609794852959040040043991355594524615474559249931155638163466356891452228311458091235414013194225314559211443494862950375125482218231626466487705963956090694898731721832672607562563655676755800989272586632669523777956226171359040759727224739346636612319013607437859345209037848563080349083476261832829156335732135678619199659948157090903160937917061268286758536145056316773983269150548834773889104486377284432023926141666988191048245278054206754607473699034798879021262605528619587532484299351985013840269604333965968637352515668010004759200985992941356165642551655118100837152424360314632452533527718072678688075958142868864811918381395236923635917113252549204462401822237938986236685798530119863810411264154339996253137266647227613220932520686155932029967147232061815779291943367260493429331580458898405842637062831195527756753386384075541911113063612359200512994561580284308164405241009030541086890459142353489643023472772716495159859399326843953952371196916087969992415047320158961629381653439231466519021908424787037059897075814212908362750660317022710879685107231638395935877566370485002257108552533444446604697093387970457366023490836994601671666408192778601948008107294599041713423584334373647810029981392119566634898760015064337153770721675345940533602552037999165093929027028470430504650153778887848243550563253473163855401910596541559420665353514075833698306561712120324863680339020225642496
def tq (j : Nat) : Nat := tabT >>> (17 * j) % 131072
def ex (j : Nat) : Bool := Nat.beq (j % 600) 0 || Nat.beq (j % 900) 0
def tqh (j : Nat) : Nat := tq j + (bif ex j then 0 else 1)
theorem tab_q : ∀ k : Nat, k < 901 → qlo k = tq k ∧ qhi k = tqh k := by decide +kernel
/-- An angle turned to the first half turn. -/
def tk' (k : Nat) : Nat := min (k % 3600) (3600 - k % 3600)
def tl (k : Nat) : Int := bif Nat.ble (tk' k) 900 then (tq (tk' k) : Int) else -(tqh (1800 - tk' k) : Int)
def th (k : Nat) : Int := bif Nat.ble (tk' k) 900 then (tqh (tk' k) : Int) else -(tq (1800 - tk' k) : Int)
theorem tab_c (a : Int) (k : Nat) (e : a % 3600 = k % 3600) : cLo a = tl k ∧ cHi a = th k := by
  have e1 : ck a = (tk' k : Nat) := by unfold ck tk'; omega
  have e2 : tk' k ≤ 1800 := by unfold tk'; omega
  unfold cLo cHi tl th
  rw [e1]
  generalize tk' k = j at *
  by_cases h : j ≤ 900
  · have h' : Nat.ble j 900 = true := by rw [Nat.ble_eq]; exact h
    obtain ⟨q1, q2⟩ := tab_q j (by omega)
    rw [if_neg (by omega), if_neg (by omega), h']
    exact ⟨q1, q2⟩
  · have h' : Nat.ble j 900 = false := by rw [← Bool.not_eq_true, Nat.ble_eq]; exact h
    obtain ⟨q1, q2⟩ := tab_q (1800 - j) (by omega)
    have e3 : (1800 : Int) - (j : Int) = ((1800 - j : Nat) : Int) := by omega
    rw [if_pos (by omega), if_pos (by omega), h', e3, q1, q2]
    exact ⟨rfl, rfl⟩
/-- Bounds of an angle are in order, at most 1 apart, and equal where the cosine is a multiple of 1/65536. -/
theorem tab_e : ∀ k : Nat, k < 3600 → tl k ≤ th k ∧ th k - tl k ≤ 1 ∧ (tl k = th k ↔ ex k = true) := by decide +kernel
theorem c_ord (a : Int) : cLo a ≤ cHi a ∧ cHi a - cLo a ≤ 1 ∧ (cLo a = cHi a ↔ ex (a % 3600).toNat = true) := by
  obtain ⟨h1, h2⟩ := tab_c a (a % 3600).toNat (by omega)
  rw [h1, h2]
  exact tab_e _ (by omega)
theorem ex_iff (a : Int) : ex (a % 3600).toNat = true ↔ a % 3600 % 600 = 0 ∨ a % 3600 % 900 = 0 := by
  simp only [ex, Bool.or_eq_true, Nat.beq_eq]
  omega
/-- One step of angle makes at most 116 of 65536. -/
theorem tab_s : ∀ k : Nat, k < 3600 → max (th k) (th (k + 1)) - min (tl k) (tl (k + 1)) ≤ 116 := by decide +kernel
def meetB (k x : Nat) : Bool := Nat.beq (k % 3600) x || Nat.beq ((k + 1) % 3600) x
theorem c_sym (a : Int) : cLo (-a) = cLo a ∧ cHi (-a) = cHi a ∧ cLo (a + 3600) = cLo a ∧ cHi (a + 3600) = cHi a ∧ cLo (a + 1800) = -cHi a ∧ cHi (a + 1800) = -cLo a := by
  have e1 : ck (-a) = ck a := by unfold ck; omega
  have e2 : ck (a + 3600) = ck a := by unfold ck; omega
  have e3 : ck (a + 1800) = 1800 - ck a := by unfold ck; omega
  obtain ⟨h1, h2⟩ := ck_bd a
  have s : ∀ k : Int, 0 ≤ k → k ≤ 1800 → CL (1800 - k) = -CH k ∧ CH (1800 - k) = -CL k := fun k k1 k2 => by
    unfold CL CH
    by_cases h : 900 < k
    · rw [if_neg (show ¬ 900 < 1800 - k by omega), if_neg (show ¬ 900 < 1800 - k by omega), if_pos h, if_pos h]; omega
    · by_cases g : k = 900
      · subst g; simp [qlo, qhi]
      · rw [if_pos (show 900 < 1800 - k by omega), if_pos (show 900 < 1800 - k by omega), if_neg h, if_neg h, show 1800 - (1800 - k) = k by omega]
        exact ⟨rfl, rfl⟩
  obtain ⟨s1, s2⟩ := s (ck a) h1 h2
  simp only [cLo_eq, cHi_eq, e1, e2, e3, s1, s2, and_self]
/-- Products of two spans. -/
def pLo (a b c d : Int) : Int := min (min (min (a * c) (a * d)) (b * c)) (b * d)
def pHi (a b c d : Int) : Int := max (max (max (a * c) (a * d)) (b * c)) (b * d)
def sLo (a b : Int) : Int := bif decide (a ≤ 0) && decide (0 ≤ b) then 0 else pLo a b a b
def sHi (a b : Int) : Int := pHi a b a b
def pythB (k : Nat) : Bool := decide (sLo (tl k) (th k) + sLo (tl (k + 2700)) (th (k + 2700)) ≤ 4294967296) && decide (4294967296 ≤ sHi (tl k) (th k) + sHi (tl (k + 2700)) (th (k + 2700)))
theorem tab_p : ∀ k : Nat, k < 3600 → pythB k = true := by decide +kernel
theorem pyth (a : Int) : sLo (cLo a) (cHi a) + sLo (cLo (a - 900)) (cHi (a - 900)) ≤ 4294967296 ∧ 4294967296 ≤ sHi (cLo a) (cHi a) + sHi (cLo (a - 900)) (cHi (a - 900)) := by
  obtain ⟨h1, h2⟩ := tab_c a (a % 3600).toNat (by omega)
  obtain ⟨h3, h4⟩ := tab_c (a - 900) ((a % 3600).toNat + 2700) (by omega)
  rw [h1, h2, h3, h4]
  have := tab_p (a % 3600).toNat (by omega)
  simpa only [pythB, Bool.and_eq_true, decide_eq_true_eq] using this
end Go.Proofs.Ytpbgkohljjmbhaa.M
/-
  The theorem of addition for bounds of cosines: powers of a vector whose length is a whole number, exact, and a table of them. Plain arithmetic. No condition. (This text proves no statement by itself.)
-/
namespace Go.Proofs.Ytpbgkohljjmbhaa.M
open Go
set_option maxRecDepth 100000
/-- A vector of length zh whose angle is a tenth of a degree, but for less than a part in 2^50. -/
def zr : Int := 177944792647119
def zi : Int := 310572567200
def zh : Int := 177945063672881
def zc : Nat → Int × Int
  | 0 => (1, 0)
  | k + 1 => ((zc k).1 * zr - (zc k).2 * zi, (zc k).1 * zi + (zc k).2 * zr)
def zn : Nat → Int
  | 0 => 1
  | k + 1 => zn k * zh
theorem zc_add (j : Nat) : ∀ k : Nat, (zc (j + k)).1 = (zc j).1 * (zc k).1 - (zc j).2 * (zc k).2 ∧ (zc (j + k)).2 = (zc j).1 * (zc k).2 + (zc j).2 * (zc k).1
  | 0 => by simp [zc]
  | k + 1 => by
    obtain ⟨h1, h2⟩ := zc_add j k
    have e : j + (k + 1) = (j + k) + 1 := rfl
    rw [e]
    simp only [zc, h1, h2]
    generalize (zc j).1 = a at *
    generalize (zc j).2 = b at *
    generalize (zc k).1 = c at *
    generalize (zc k).2 = d at *
    generalize zr = r at *
    generalize zi = i at *
    clear h1 h2 e
    grind
theorem zn_add (j : Nat) : ∀ k : Nat, zn (j + k) = zn j * zn k
  | 0 => by simp [zn]
  | k + 1 => by
    have h1 := zn_add j k
    have e : j + (k + 1) = (j + k) + 1 := rfl
    rw [e]
    simp only [zn, h1, Int.mul_assoc]
theorem zn_pos : ∀ k : Nat, 0 < zn k
  | 0 => by simp [zn]
  | k + 1 => by
    simp only [zn]
    exact Int.mul_pos (zn_pos k) (by unfold zh; omega)
def okV (lo hi c h : Int) : Bool := decide (1048576 * (lo * h) - h ≤ 68719476736 * c) && decide (68719476736 * c ≤ 1048576 * (hi * h) + h)
def go : Nat → Nat → Int → Int → Int → Bool
  | 0, _, _, _, _ => true
  | f + 1, k, c, s, h => okV (tl k) (th k) c h && ((Nat.ble 3600 k || okV (tl (k + 2700)) (th (k + 2700)) s h) && go f (k + 1) (c * zr - s * zi) (c * zi + s * zr) (h * zh))
theorem go_ok : ∀ (f k : Nat), go f k (zc k).1 (zc k).2 (zn k) = true → ∀ j, k ≤ j → j < k + f → okV (tl j) (th j) (zc j).1 (zn j) = true ∧ (j < 3600 → okV (tl (j + 2700)) (th (j + 2700)) (zc j).2 (zn j) = true)
  | 0, k, _, j, h1, h2 => by omega
  | f + 1, k, h, j, h1, h2 => by
    simp only [go, Bool.and_eq_true, Bool.or_eq_true] at h
    obtain ⟨g1, g2, g3⟩ := h
    by_cases e : j = k
    · subst e
      refine ⟨g1, fun hj => ?_⟩
      rcases g2 with g2 | g2
      · rw [Nat.ble_eq] at g2; omega
      · exact g2
    · exact go_ok f (k + 1) g3 j (by omega) (by omega)
theorem go_all : go 7200 0 1 0 1 = true := by decide +kernel
theorem z_ok {j : Nat} (h : j < 7200) : okV (tl j) (th j) (zc j).1 (zn j) = true ∧ (j < 3600 → okV (tl (j + 2700)) (th (j + 2700)) (zc j).2 (zn j) = true) :=
  go_ok 7200 0 go_all j (by omega) (by omega)
end Go.Proofs.Ytpbgkohljjmbhaa.M
/-
  The theorem of addition for bounds of cosines. Plain arithmetic. No condition. (This text proves no statement by itself.)
-/
namespace Go.Proofs.Ytpbgkohljjmbhaa.M
open Go
theorem lin_le {p u t v K : Int} (h1 : u ≤ t) (h2 : t ≤ v) (g1 : p * u ≤ K) (g2 : p * v ≤ K) : p * t ≤ K := by
  rcases Int.le_total 0 p with h | h
  · exact Int.le_trans (Int.mul_le_mul_of_nonneg_left h2 h) g2
  · exact Int.le_trans (Int.mul_le_mul_of_nonpos_left h h1) g1
/-- A product of two numbers in scaled spans. -/
theorem mul_up {A B a1 a2 b1 b2 h g K : Int} (hh : 0 ≤ h) (hg : 0 ≤ g) (A1 : a1 * h ≤ A) (A2 : A ≤ a2 * h) (B1 : b1 * g ≤ B) (B2 : B ≤ b2 * g)
    (k1 : a1 * b1 ≤ K) (k2 : a1 * b2 ≤ K) (k3 : a2 * b1 ≤ K) (k4 : a2 * b2 ≤ K) : A * B ≤ K * (h * g) := by
  have hg' : 0 ≤ h * g := Int.mul_nonneg hh hg
  have c : ∀ x y : Int, x * y ≤ K → (x * h) * (y * g) ≤ K * (h * g) := fun x y e => by
    have : (x * h) * (y * g) = (x * y) * (h * g) := by grind
    rw [this]
    exact Int.mul_le_mul_of_nonneg_right e hg'
  rw [Int.mul_comm]
  refine lin_le A1 A2 ?_ ?_
  · rw [Int.mul_comm]; exact lin_le B1 B2 (c _ _ k1) (c _ _ k2)
  · rw [Int.mul_comm]; exact lin_le B1 B2 (c _ _ k3) (c _ _ k4)
theorem mul_dn {A B a1 a2 b1 b2 h g K : Int} (hh : 0 ≤ h) (hg : 0 ≤ g) (A1 : a1 * h ≤ A) (A2 : A ≤ a2 * h) (B1 : b1 * g ≤ B) (B2 : B ≤ b2 * g)
    (k1 : K ≤ a1 * b1) (k2 : K ≤ a1 * b2) (k3 : K ≤ a2 * b1) (k4 : K ≤ a2 * b2) : K * (h * g) ≤ A * B := by
  have := mul_up (A := -A) (B := B) (a1 := -a2) (a2 := -a1) (b1 := b1) (b2 := b2) (K := -K) hh hg (by rw [Int.neg_mul]; omega) (by rw [Int.neg_mul]; omega) B1 B2
    (by rw [Int.neg_mul]; omega) (by rw [Int.neg_mul]; omega) (by rw [Int.neg_mul]; omega) (by rw [Int.neg_mul]; omega)
  rw [Int.neg_mul, Int.neg_mul] at this
  omega
theorem corner (a b e f : Int) : (1048576 * a + e) * (1048576 * b + f) = 1099511627776 * (a * b) + 1048576 * (a * f + b * e) + e * f := by grind
theorem okV_iff {lo hi c h : Int} : okV lo hi c h = true ↔ (1048576 * lo + -1) * h ≤ 68719476736 * c ∧ 68719476736 * c ≤ (1048576 * hi + 1) * h := by
  have e1 : (1048576 * lo + -1) * h = 1048576 * (lo * h) - h := by grind
  have e2 : (1048576 * hi + 1) * h = 1048576 * (hi * h) + h := by grind
  rw [e1, e2]
  simp only [okV, Bool.and_eq_true, decide_eq_true_eq]
theorem okV_mul {a1 a2 b1 b2 c d h g : Int} (hh : 0 ≤ h) (hg : 0 ≤ g) (o1 : okV a1 a2 c h = true) (o2 : okV b1 b2 d g = true)
    (x1 : -65536 ≤ a1) (x2 : a1 ≤ 65536) (x3 : -65536 ≤ a2) (x4 : a2 ≤ 65536) (y1 : -65536 ≤ b1) (y2 : b1 ≤ 65536) (y3 : -65536 ≤ b2) (y4 : b2 ≤ 65536) :
    (1099511627776 * pLo a1 a2 b1 b2 - 137438953473) * (h * g) ≤ (68719476736 * c) * (68719476736 * d) ∧ (68719476736 * c) * (68719476736 * d) ≤ (1099511627776 * pHi a1 a2 b1 b2 + 137438953473) * (h * g) := by
  obtain ⟨A1, A2⟩ := okV_iff.1 o1
  obtain ⟨B1, B2⟩ := okV_iff.1 o2
  have e1 := corner a1 b1 (-1) (-1)
  have e2 := corner a1 b2 (-1) 1
  have e3 := corner a2 b1 1 (-1)
  have e4 := corner a2 b2 1 1
  unfold pLo pHi
  constructor
  · refine mul_dn hh hg A1 A2 B1 B2 ?_ ?_ ?_ ?_
    · rw [e1]; omega
    · rw [e2]; omega
    · rw [e3]; omega
    · rw [e4]; omega
  · refine mul_up hh hg A1 A2 B1 B2 ?_ ?_ ?_ ?_
    · rw [e1]; omega
    · rw [e2]; omega
    · rw [e3]; omega
    · rw [e4]; omega
theorem le_of_mulH {a b H : Int} (hH : 0 < H) (h : a * H ≤ b * H) : a ≤ b := Int.le_of_mul_le_mul_right h hH
/-- The theorem of addition. -/
theorem add_thm (x y : Int) : cLo (x + y) * 65536 ≤ pHi (cLo x) (cHi x) (cLo y) (cHi y) - pLo (cLo (x - 900)) (cHi (x - 900)) (cLo (y - 900)) (cHi (y - 900)) ∧
    pLo (cLo x) (cHi x) (cLo y) (cHi y) - pHi (cLo (x - 900)) (cHi (x - 900)) (cLo (y - 900)) (cHi (y - 900)) ≤ cHi (x + y) * 65536 := by
  have bd : ∀ a : Int, -65536 ≤ cLo a ∧ cLo a ≤ 65536 ∧ -65536 ≤ cHi a ∧ cHi a ≤ 65536 := fun a => by
    have := c_one a
    have := (c_ord a).1
    omega
  obtain ⟨X, hX⟩ := Int.eq_ofNat_of_zero_le (show 0 ≤ x % 3600 by omega)
  obtain ⟨Y, hY⟩ := Int.eq_ofNat_of_zero_le (show 0 ≤ y % 3600 by omega)
  obtain ⟨a1, a2⟩ := tab_c x X (by omega)
  obtain ⟨b1, b2⟩ := tab_c y Y (by omega)
  obtain ⟨c1, c2⟩ := tab_c (x - 900) (X + 2700) (by omega)
  obtain ⟨d1, d2⟩ := tab_c (y - 900) (Y + 2700) (by omega)
  obtain ⟨s1, s2⟩ := tab_c (x + y) (X + Y) (by omega)
  have o1 := z_ok (j := X) (by omega)
  have o2 := z_ok (j := Y) (by omega)
  have o3 := (z_ok (j := X + Y) (by omega)).1
  have g1 := o1.2 (by omega)
  have g2 := o2.2 (by omega)
  rw [← a1, ← a2] at o1
  rw [← b1, ← b2] at o2
  rw [← c1, ← c2] at g1
  rw [← d1, ← d2] at g2
  rw [← s1, ← s2, (zc_add X Y).1, zn_add, okV_iff] at o3
  have hx := bd x; have hy := bd y; have hs := bd (x - 900); have ht := bd (y - 900)
  have p1 := okV_mul (Int.le_of_lt (zn_pos X)) (Int.le_of_lt (zn_pos Y)) o1.1 o2.1 hx.1 hx.2.1 hx.2.2.1 hx.2.2.2 hy.1 hy.2.1 hy.2.2.1 hy.2.2.2
  have p2 := okV_mul (Int.le_of_lt (zn_pos X)) (Int.le_of_lt (zn_pos Y)) g1 g2 hs.1 hs.2.1 hs.2.2.1 hs.2.2.2 ht.1 ht.2.1 ht.2.2.1 ht.2.2.2
  have hH : 0 < zn X * zn Y := Int.mul_pos (zn_pos X) (zn_pos Y)
  generalize zn X * zn Y = H at *
  generalize pHi (cLo x) (cHi x) (cLo y) (cHi y) = P at *
  generalize pLo (cLo x) (cHi x) (cLo y) (cHi y) = p at *
  generalize pHi (cLo (x - 900)) (cHi (x - 900)) (cLo (y - 900)) (cHi (y - 900)) = Q at *
  generalize pLo (cLo (x - 900)) (cHi (x - 900)) (cLo (y - 900)) (cHi (y - 900)) = q at *
  have m : ∀ c d : Int, 68719476736 * c * (68719476736 * d) = 4722366482869645213696 * (c * d) := fun c d => by grind
  rw [m] at p1 p2
  generalize (zc X).1 * (zc Y).1 = C at *
  generalize (zc X).2 * (zc Y).2 = S at *
  obtain ⟨o4, o5⟩ := o3
  have r1 : ∀ a b : Int, a * H - b * H = (a - b) * H := fun a b => by rw [Int.sub_mul]
  constructor
  · have h1 : (68719476736 * (1048576 * cLo (x + y) + -1)) * H ≤ ((1099511627776 * P + 137438953473) - (1099511627776 * q - 137438953473)) * H := by
      rw [Int.mul_assoc, Int.sub_mul]; omega
    have := le_of_mulH hH h1
    omega
  · have h1 : ((1099511627776 * p - 137438953473) - (1099511627776 * Q + 137438953473)) * H ≤ (68719476736 * (1048576 * cHi (x + y) + 1)) * H := by
      rw [Int.mul_assoc, Int.sub_mul]; omega
    have := le_of_mulH hH h1
    omega
/-- The bounds of one angle. -/
theorem b_one (a : Int) : bLo a a = cLo a ∧ bHi a a = cHi a := by
  have s : ck a = 1800 → cLo a = -65536 := fun h => by rw [cLo_eq, h]; exact CH_0.2
  have t : ck a = 0 → cHi a = 65536 := fun h => by rw [cHi_eq, h]; exact CH_0.1
  unfold bLo bHi
  constructor
  · cases hm : meets a a 1800
    · simp
    · simp only [meets, decide_eq_true_eq] at hm
      rw [s (by unfold ck; omega)]; rfl
  · cases hm : meets a a 0
    · simp
    · simp only [meets, decide_eq_true_eq] at hm
      rw [t (by unfold ck; omega)]; rfl
theorem c_bds (a : Int) : (-65536 ≤ cLo a ∧ cLo a ≤ 65536) ∧ (-65536 ≤ cHi a ∧ cHi a ≤ 65536) := by
  have := c_one a
  have := (c_ord a).1
  omega
theorem pr_bd {a b : Int} (h : -65536 ≤ a ∧ a ≤ 65536) (g : -65536 ≤ b ∧ b ≤ 65536) : -4294967296 ≤ a * b ∧ a * b ≤ 4294967296 := by
  have e1 := mul_up (A := a) (B := b) (a1 := -65536) (a2 := 65536) (b1 := -65536) (b2 := 65536) (h := 1) (g := 1) (K := 4294967296) (by omega) (by omega) (by omega) (by omega) (by omega) (by omega) (by omega) (by omega) (by omega) (by omega)
  have e2 := mul_dn (A := a) (B := b) (a1 := -65536) (a2 := 65536) (b1 := -65536) (b2 := 65536) (h := 1) (g := 1) (K := -4294967296) (by omega) (by omega) (by omega) (by omega) (by omega) (by omega) (by omega) (by omega) (by omega) (by omega)
  omega
theorem pq_bd {a b c d : Int} (h : (-65536 ≤ a ∧ a ≤ 65536) ∧ (-65536 ≤ b ∧ b ≤ 65536)) (g : (-65536 ≤ c ∧ c ≤ 65536) ∧ (-65536 ≤ d ∧ d ≤ 65536)) :
    -4294967296 ≤ pLo a b c d ∧ pLo a b c d ≤ 4294967296 ∧ -4294967296 ≤ pHi a b c d ∧ pHi a b c d ≤ 4294967296 := by
  have e1 := pr_bd h.1 g.1
  have e2 := pr_bd h.1 g.2
  have e3 := pr_bd h.2 g.1
  have e4 := pr_bd h.2 g.2
  unfold pLo pHi
  omega
theorem pq_ord {a b c d : Int} : pLo a b c d ≤ pHi a b c d := by unfold pLo pHi; omega
theorem sq_bd {a b : Int} (h : (-65536 ≤ a ∧ a ≤ 65536) ∧ (-65536 ≤ b ∧ b ≤ 65536)) : -4294967296 ≤ sLo a b ∧ sLo a b ≤ 4294967296 ∧ -4294967296 ≤ sHi a b ∧ sHi a b ≤ 4294967296 := by
  have := pq_bd h h
  unfold sLo sHi
  cases decide (a ≤ 0) && decide (0 ≤ b) <;> simp <;> omega
theorem pq_r {a b c d : Int} (h : (-65536 ≤ a ∧ a ≤ 65536) ∧ (-65536 ≤ b ∧ b ≤ 65536)) (g : (-65536 ≤ c ∧ c ≤ 65536) ∧ (-65536 ≤ d ∧ d ≤ 65536)) :
    Sep.R64 (a * c) ∧ Sep.R64 (a * d) ∧ Sep.R64 (b * c) ∧ Sep.R64 (b * d) := by
  have e1 := pr_bd h.1 g.1
  have e2 := pr_bd h.1 g.2
  have e3 := pr_bd h.2 g.1
  have e4 := pr_bd h.2 g.2
  unfold Sep.R64
  omega
end Go.Proofs.Ytpbgkohljjmbhaa.M
